/-
  Vec BTV Vec1 Vec2 ReadF LfrB Ctx Ctx2 C10 BTM Miss
-/
import Derived.Test.YtmhkalalcmkpbaaZBT2
import Derived.Test.YtmhkalalcmkpbaaZC7
import Derived.Test.YtmhkalalcmkpbaaZC9
import Derived.Test.YtmhkalalcmkpbaaZCat
import Derived.Test.YtmhkalalcmkpbaaZCau3
import Derived.Test.YtmhkalalcmkpbaaZDel1
import Derived.Test.YtmhkalalcmkpbaaZDw
import Derived.Test.YtmhkalalcmkpbaaZFlay
import Derived.Test.YtmhkalalcmkpbaaZFrb
import Derived.Test.YtmhkalalcmkpbaaZLfoB
import Derived.Test.YtmhkalalcmkpbaaZReadD
import Derived.ChangeKeysEq
namespace Go.Proofs.Ytmhkalalcmkpbaa
open Go Go.RowKit
set_option linter.unusedVariables false
set_option linter.unusedSimpArgs false

abbrev iL (v : List Int) : List AV := v.map fun n => iA n
abbrev vA (v : List Int) : AV := .agg (iL v)
theorem vals_ints : ∀ (v : List Int), AV.vals (iL v) = v.map fun n => Value.int .i64 n
  | [] => rfl
  | n :: v => by show _ :: AV.vals (iL v) = _; rw [vals_ints v]; rfl
theorem exL_ints : ∀ (v : List Int), AV.exL (iL v) = true
  | [] => rfl
  | n :: v => by show (true && AV.exL (iL v)) = true; rw [exL_ints v]; rfl
theorem eqItems_ints {P : Program} {e : TypeId} (he : P.plainKey e = true) (hu : P.underlying e = some (.int .i64)) (hc : P.cellsOf e = 1) (d : Nat) (w : World) (v u : List Int) : ∀ (is : List Nat), (∀ i ∈ is, i < v.length ∧ i < u.length) →
    (Op.eqItems (d + 1) e 1 (v.map fun n => Value.int .i64 n).toArray (u.map fun n => Value.int .i64 n).toArray is).run P w = .ok (is.all fun i => decide (v[i]? = u[i]?)) w
  | [], _ => by simp [Op.eqItems]
  | i :: is, h => by
    obtain ⟨h1, h2⟩ := h i (by simp)
    have p1 : (part e (v.map fun n => Value.int .i64 n).toArray (i * 1)).run P w = .ok (.int .i64 v[i]) w := run_part_plain w he (by simp [h1])
    have p2 : (part e (u.map fun n => Value.int .i64 n).toArray (i * 1)).run P w = .ok (.int .i64 u[i]) w := run_part_plain w he (by simp [h2])
    have ih := eqItems_ints he hu hc d w v u is fun j hj => h j (by simp [hj])
    simp only [Op.eqItems, Sem.run_bind, p1, p2, Result.andThen_ok, run_equalIn_int w d e .i64 .i64 _ _ hu]
    by_cases e1 : v[i] = u[i]
    · simp only [e1, beq_self_eq_true, Bool.not_true, Bool.false_eq_true, if_false]
      rw [ih, List.all_cons, List.getElem?_eq_getElem h1, List.getElem?_eq_getElem h2, e1]
      simp
    · have e2 : (v[i] == u[i]) = false := by simpa using e1
      simp only [e2, Bool.not_false, if_true]
      rw [List.all_cons, List.getElem?_eq_getElem h1, List.getElem?_eq_getElem h2]
      simp [e1]
set_option maxRecDepth 100000 in
theorem eqV (w : World) (v u : List Int) (hv : v.length = 16) (hu : u.length = 16) : (Op.equalIn 10000 53 (.agg (AV.vals (iL v)).toArray) (.agg (AV.vals (iL u)).toArray)).run Try.prog w = .ok (decide (v = u)) w := by
  obtain ⟨ti, hti⟩ := Option.isSome_iff_exists.1 (show (Try.prog.info? 3).isSome = true by kernel_rfl)
  rw [vals_ints, vals_ints, run_equalIn_array (P := Try.prog) (w := w) 9999 (t := 53) (e := 3) (n := 16) _ _ (by kernel_rfl) hti, show Try.prog.cellsOf 3 = 1 by kernel_rfl,
    eqItems_ints (P := Try.prog) (by kernel_rfl) (by kernel_rfl) (by kernel_rfl) 9998 w v u (List.range 16) (fun i hi => by have := List.mem_range.1 hi; omega)]
  congr 1
  rw [Bool.eq_iff_iff, List.all_eq_true, decide_eq_true_eq]
  constructor
  · intro h
    refine List.ext_getElem? fun i => ?_
    rcases Nat.lt_or_ge i 16 with hi | hi
    · simpa using h i (List.mem_range.2 hi)
    · rw [List.getElem?_eq_none (by omega), List.getElem?_eq_none (by omega)]
  · rintro rfl i _
    simp
theorem guardV : Try.prog.eqGuardType Try.prog.depth 53 = false := by kernel_rfl
end Go.Proofs.Ytmhkalalcmkpbaa

namespace Go.Proofs.Ytmhkalalcmkpbaa
open Go
theorem ty53 : tyOf Try.prog 53 = some (true, 16) := by kernel_rfl
theorem ze53 : tyZero Try.prog 53 = some [.int .i64 0, .int .i64 0, .int .i64 0, .int .i64 0, .int .i64 0, .int .i64 0, .int .i64 0, .int .i64 0, .int .i64 0, .int .i64 0, .int .i64 0, .int .i64 0, .int .i64 0, .int .i64 0, .int .i64 0, .int .i64 0] := by kernel_rfl
theorem ty55 : tyOf Try.prog 55 = some (true, 17) := by kernel_rfl
theorem ze55 : tyZero Try.prog 55 = some [.int .i64 0, .int .i64 0, .int .i64 0, .int .i64 0, .int .i64 0, .int .i64 0, .int .i64 0, .int .i64 0, .int .i64 0, .int .i64 0, .int .i64 0, .int .i64 0, .int .i64 0, .int .i64 0, .int .i64 0, .int .i64 0, .slice none 0 0] := by kernel_rfl
theorem fl55_0 : tyField Try.prog 55 0 = some (0, 53) := by kernel_rfl
theorem fl55_1 : tyField Try.prog 55 1 = some (16, 27) := by kernel_rfl
theorem pl55 : stPlaces Try.prog 55 = some [(0, 16), (16, 1)] := by kernel_rfl
end Go.Proofs.Ytmhkalalcmkpbaa

namespace Go.Proofs.Ytmhkalalcmkpbaa
open Go Go.RowKit
set_option linter.unusedVariables false
set_option linter.unusedSimpArgs false

theorem iL_len {v : List Int} (h : v.length = 16) : (iL v).length = 16 := by rw [List.length_map]; exact h
theorem iL_at {v : List Int} {i : Nat} {x : Int} (h : v[i]? = some x) : (iL v)[i * 1]? = some (iA x) := by rw [Nat.mul_one, List.getElem?_map, h]; rfl
theorem iL_at0 {v : List Int} {i : Nat} {x : Int} (h : v[i]? = some x) : (iL v)[0 + i * 1]? = some (iA x) := by rw [Nat.zero_add]; exact iL_at h
theorem iL_set {v : List Int} {i : Nat} {x : Int} : (iL v).set (0 + i * 1) (iA x) = iL (v.set i x) := by
  rw [Nat.zero_add, Nat.mul_one]
  exact List.map_set.symm
theorem spl_whole {α : Type} {cs news : List α} (h : cs.length = news.length) : spl cs 0 news = news := by
  unfold spl
  rw [Nat.zero_add, ← h, List.drop_length]
  simp
theorem zeroV_len : zeroV.length = 16 := rfl
theorem vget_at {v : List Int} {r : Int} (h : v.length = 16) (h0 : 0 ≤ r) (h1 : r < 16) : v[r.toNat]? = some (vget v r) := by
  have hr : r.toNat < v.length := by omega
  unfold vget
  rw [getD_lt hr, List.getElem?_eq_getElem hr]
theorem eql0_t {a : Int} (h : a = 0) : icmp .eql a 0 = some true := congrArg some (decide_eq_true h)
theorem eql0_f {a : Int} (h : a ≠ 0) : icmp .eql a 0 = some false := congrArg some (decide_eq_false h)
theorem leqq_t {a b : Int} (h : a ≤ b) : icmp .leq a b = some true := congrArg some (decide_eq_true h)
theorem leqq_f {a b : Int} (h : ¬ a ≤ b) : icmp .leq a b = some false := congrArg some (decide_eq_false h)
def badN (x : Int) : Bool := decide (x < 0) || decide (1099511627776 < x)
theorem badN_ok {x : Int} (h : badN x = false) : vOk x = true := by
  unfold badN at h; unfold vOk
  rw [Bool.or_eq_false_iff, decide_eq_false_iff_not, decide_eq_false_iff_not] at h
  rw [decide_eq_true (by omega : 0 ≤ x), decide_eq_true (by omega : x ≤ 1099511627776)]; rfl
theorem badN_no {x : Int} (h : badN x = true) : vOk x = false := by
  cases hh : vOk x with
  | false => rfl
  | true =>
    unfold badN at h; unfold vOk at hh
    rw [Bool.or_eq_true, decide_eq_true_eq, decide_eq_true_eq] at h
    rw [Bool.and_eq_true, decide_eq_true_eq, decide_eq_true_eq] at hh
    omega
theorem vE_bad {v : List Int} {i : Nat} {x : Int} (h : v[i]? = some x) (hb : badN x = true) : vE v = 2 := by
  unfold vE
  rw [if_neg]
  intro hall
  have := List.all_eq_true.1 hall x (List.mem_of_getElem? h)
  rw [badN_no hb] at this; cases this
theorem vE_all {v : List Int} (h : ∀ (j : Nat) y, v[j]? = some y → vOk y = true) : vE v = 0 := by
  unfold vE
  rw [if_pos]
  exact List.all_eq_true.2 fun x hx => by obtain ⟨j, hj⟩ := List.mem_iff_getElem?.1 hx; exact h j x hj
theorem has_cases (v : List Int) (d : Int × Int) : (chk d ≠ 0 ∧ vhas v d = false) ∨ (chk d = 0 ∧ d.2 ≤ vget v d.1 ∧ vhas v d = true) ∨ (chk d = 0 ∧ ¬ d.2 ≤ vget v d.1 ∧ vhas v d = false) := by
  unfold vhas
  by_cases h1 : chk d = 0
  · by_cases h2 : d.2 ≤ vget v d.1
    · exact .inr (.inl ⟨h1, h2, by rw [decide_eq_true h1, decide_eq_true h2]; rfl⟩)
    · exact .inr (.inr ⟨h1, h2, by rw [decide_eq_false h2]; simp⟩)
  · exact .inl ⟨h1, by rw [decide_eq_false h1]; rfl⟩
def vTo (f : Int → Int → Int) (a b : List Int) (i : Nat) : List Int := (List.zipWith f a b).take i ++ a.drop i
theorem vTo_len {f : Int → Int → Int} {a b : List Int} (ha : a.length = 16) (hb : b.length = 16) {i : Nat} (hi : i ≤ 16) : (vTo f a b i).length = 16 := by
  unfold vTo; rw [List.length_append, List.length_take, List.length_drop, List.length_zipWith]; omega
theorem vTo_at {f : Int → Int → Int} {a b : List Int} {i : Nat} {x : Int} (ha : a.length = 16) (hb : b.length = 16) (hi : i < 16) (h : a[i]? = some x) : (vTo f a b i)[i]? = some x := by
  unfold vTo
  have hl : ((List.zipWith f a b).take i).length = i := by rw [List.length_take, List.length_zipWith]; omega
  rw [List.getElem?_append_right (by omega), hl, Nat.sub_self, List.getElem?_drop, Nat.add_zero]; exact h
theorem vTo_set {f : Int → Int → Int} {a b : List Int} {i : Nat} {x y : Int} (ha : a.length = 16) (hb : b.length = 16) (hi : i < 16) (h : a[i]? = some x) (h2 : b[i]? = some y) : (vTo f a b i).set i (f x y) = vTo f a b (i + 1) := by
  unfold vTo
  have hl : ((List.zipWith f a b).take i).length = i := by rw [List.length_take, List.length_zipWith]; omega
  have hz : i < (List.zipWith f a b).length := by rw [List.length_zipWith]; omega
  have hia : i < a.length := by omega
  rw [List.set_append_right _ _ (by omega), hl, Nat.sub_self, List.drop_eq_getElem_cons hia, List.set_cons_zero, ← List.take_append_getElem hz, List.append_assoc, List.getElem_zipWith]
  have e1 : a[i] = x := (List.getElem?_eq_some_iff.1 h).2
  have e2 : b[i]'(by omega) = y := (List.getElem?_eq_some_iff.1 h2).2
  rw [e1, e2]; rfl
theorem vTo_all {f : Int → Int → Int} {a b : List Int} (ha : a.length = 16) (hb : b.length = 16) : vTo f a b 16 = List.zipWith f a b := by
  unfold vTo
  rw [List.take_of_length_le (by rw [List.length_zipWith]; omega), List.drop_eq_nil_of_le (by omega), List.append_nil]
theorem vTo_zero (f : Int → Int → Int) (a b : List Int) : vTo f a b 0 = a := by unfold vTo; simp
theorem nums16 (v : List Int) (hv : v.length = 16) (k : Nat) : (cat ((v.take k).map numS)).size ≤ 128 := by
  have h := cat_size (k := 8) ((v.take k).map numS) fun x hx => by obtain ⟨n, _, rfl⟩ := List.mem_map.1 hx; exact numS_size n
  have h2 : ((v.take k).map numS).length ≤ 16 := by rw [List.length_map, List.length_take]; omega
  omega
theorem vputS_err {v : List Int} (h : vE v ≠ 0) : vputS v = ⟨#[]⟩ := if_pos h
theorem vputS_ok {v : List Int} (h : vE v = 0) : vputS v = cat (v.map numS) := if_neg (by simpa using h)
set_option maxRecDepth 100000 in
theorem vcheck_p (v : List Int) (hv : v.length = 16) : PFn Try.prog False 95 [vA v] (iA (vE v)) := by
  refine pfn Try.func95 rfl (by kernel_rfl) 16 rfl _ rfl (Nat.le_of_ble_eq_true rfl) (fun X w0 => ?_)
  refine wSeq ?_
  refine wReg ?_
  refine sBox rfl rfl rfl rfl rfl (fun g1 => ?_)
  refine sP rfl rfl rfl (pA rfl rfl) ?_
  refine lNil ?_
  refine wSeq ?_
  refine wSeq ?_
  refine wReg ?_
  refine sP rfl rfl rfl (pLdW 0 rfl rfl rfl ty53 (iL_len hv)) ?_
  refine sP rfl rfl rfl (pM rfl rfl) ?_
  refine lNil ?_
  refine wBlock ?_
  refine wLoop (fun mm L h => ∃ i, mm = 16 - i ∧ i ≤ 16 ∧ (∀ j y, j < i → v[j]? = some y → vOk y = true) ∧ L = [(5, vA v), (6, iA (i : Nat))] ∧ h = []) ⟨_, _, _, _, ⟨0, rfl, Nat.zero_le _, fun j y hj => absurd hj (by omega), rfl, rfl⟩, ⟨rfl, rfl, trivial⟩, rfl⟩ ?_
  rintro mm L h ⟨i, rfl, hi, h0, rfl, rfl⟩
  refine wSeq ?_
  refine wReg ?_
  refine sP rfl rfl rfl (p_icmp rfl rfl rfl rfl) ?_
  refine lNil ?_
  refine wSeq ?_
  refine wCond rfl (fun hc1 => ?_) (fun hc1 => ?_)
  · have hi16 : i < 16 := by have h := hc1; simp at h; omega
    obtain ⟨x, hx⟩ : ∃ x, v[i]? = some x := getL (by omega)
    refine wSkip ?_
    refine wSeq ?_
    refine wBlock ?_
    refine wSeq ?_
    refine wReg ?_
    refine sP rfl rfl rfl (p_index_arr rfl rfl Try.underlying53 ty3 rfl (i := i) rfl hi16 (.inr ⟨rfl, iL_at hx⟩)) ?_
    refine sP rfl rfl rfl (pA rfl rfl) ?_
    refine lNil ?_
    refine wCut (fun L h => ∃ b : Bool, b = (badN x) ∧ L = [(4, iA x), (5, vA v), (6, iA (i : Nat)), (14, bA b)] ∧ h = []) ?_ ?_
    · cases hb : (decide (x < 0)) with
      | true =>
        refine wReg ?_
        refine sP rfl rfl rfl (pM rfl rfl) ?_
        refine sP rfl rfl rfl (p_icmp rfl rfl rfl (congrArg some hb)) ?_
        refine sP rfl rfl rfl (pM rfl rfl) ?_
        refine sU rfl rfl rfl (by decide) rfl rfl ?_
        refine sU rfl rfl rfl (by decide) rfl rfl ?_
        refine sP rfl rfl rfl (p_pick rfl rfl rfl) ?_
        refine lNil ?_
        exact ⟨_, [], [], ⟨_, (by exact (by unfold badN; rw [hb]; rfl)), rfl, rfl⟩, ⟨rfl, rfl, rfl, rfl, trivial⟩, rfl⟩
      | false =>
        refine wReg ?_
        refine sP rfl rfl rfl (pM rfl rfl) ?_
        refine sP rfl rfl rfl (p_icmp rfl rfl rfl (congrArg some hb)) ?_
        refine sP rfl rfl rfl (pM rfl rfl) ?_
        refine sG rfl rfl rfl rfl rfl (pM rfl rfl) ?_
        refine sG rfl rfl rfl rfl rfl (p_icmp rfl rfl rfl rfl) ?_
        refine sP rfl rfl rfl (p_pick rfl rfl rfl) ?_
        refine lNil ?_
        exact ⟨_, [], [], ⟨_, (by exact (by unfold badN; rw [hb]; rfl)), rfl, rfl⟩, ⟨rfl, rfl, rfl, rfl, trivial⟩, rfl⟩
    · rintro L h ⟨b, hb, rfl, rfl⟩
      refine wCond rfl (fun hc2 => ?_) (fun hc2 => ?_)
      · refine wSeq ?_
        refine wReg ?_
        refine sP rfl rfl rfl (pA rfl rfl) ?_
        refine lNil ?_
        refine wRet ?_
        exact rgs1 (rg_tmp (gives_sub (Sub.of_eq (avI (vE_bad hx (hb.symm.trans hc2)).symm))))
      · refine wSkip ?_
        refine wReg ?_
        refine sP rfl rfl rfl (p_iar rfl rfl rfl rfl) ?_
        refine sP rfl rfl rfl (pM rfl rfl) ?_
        refine lNil ?_
        have hok := badN_ok (hb.symm.trans hc2)
        refine ⟨_, _, [], _, ?_, ⟨i + 1, rfl, hi16, fun j y hj hy => ?_, rfl, rfl⟩, ⟨rfl, avI (wrapI (by omega) (by omega)), trivial⟩, rfl⟩
        · omega
        · rcases Nat.lt_or_ge j i with h | h
          · exact h0 j y h hy
          · obtain rfl : j = i := by omega
            rw [hx] at hy; injection hy with hy; rw [← hy]; exact hok
  · have hge : i = 16 := by have h := hc1; simp at h; omega
    subst hge
    refine wExit ?_
    refine wSeq ?_
    refine wReg ?_
    refine sP rfl rfl rfl (pA rfl rfl) ?_
    refine lNil ?_
    refine wRet ?_
    exact rgs1 (rg_tmp (gives_sub (Sub.of_eq (avI (vE_all fun j y hy => h0 j y (by have := (List.getElem?_eq_some_iff.1 hy).1; omega) hy).symm))))
theorem ones_ints : ∀ v : List Int, AV.ones (iL v) = true
  | [] => rfl
  | n :: v => by show (true && AV.ones (iL v)) = true; rw [ones_ints v]; rfl

set_option maxRecDepth 100000 in
theorem vjoin_p (a b : List Int) (ha : a.length = 16) (hb : b.length = 16) : PFn Try.prog False 121 [vA a, vA b] (vA (vmax a b)) := by
  refine pfn Try.func121 rfl (by kernel_rfl) 21 rfl _ rfl (Nat.le_of_ble_eq_true rfl) (fun X w0 => ?_)
  refine wSeq ?_
  refine wReg ?_
  refine sBox rfl rfl rfl rfl rfl (fun g2 => ?_)
  refine sBox rfl rfl rfl rfl rfl (fun g3 => ?_)
  refine sAlloc rfl rfl rfl rfl ze53 (fun g4 => ?_)
  refine lNil ?_
  refine wSeq ?_
  refine wSeq ?_
  refine wReg ?_
  refine sP rfl rfl rfl (pLdW 1 rfl rfl rfl ty53 (iL_len hb)) ?_
  refine sP rfl rfl rfl (pM rfl rfl) ?_
  refine lNil ?_
  refine wBlock ?_
  refine wLoop (fun mm L h => ∃ i, mm = 16 - i ∧ i ≤ 16 ∧ L = [(2, .x (.pointer (some ⟨g2, 0, none⟩))), (4, .x (.pointer (some ⟨g4, 0, none⟩))), (7, vA b), (8, iA (i : Nat))] ∧ h = [.cells g2 53 (iL (vTo max a b i)), .cells g3 53 (iL b), .cells g4 53 (iL zeroV)]) ⟨_, _, [.cells g2 53 (iL a), .cells g3 53 (iL b), .cells g4 53 (iL zeroV)], _, ⟨0, rfl, Nat.zero_le _, rfl, by rw [vTo_zero]⟩, ⟨rfl, rfl, rfl, rfl, trivial⟩, rfl⟩ ?_
  rintro mm L h ⟨i, rfl, hi, rfl, rfl⟩
  refine wSeq ?_
  refine wReg ?_
  refine sP rfl rfl rfl (p_icmp rfl rfl rfl rfl) ?_
  refine lNil ?_
  refine wSeq ?_
  refine wCond rfl (fun hc1 => ?_) (fun hc1 => ?_)
  · have hi16 : i < 16 := by have h := hc1; simp at h; omega
    obtain ⟨x, hx⟩ : ∃ x, a[i]? = some x := getL (by omega)
    obtain ⟨y, hy⟩ : ∃ y, b[i]? = some y := getL (by omega)
    refine wSkip ?_
    refine wSeq ?_
    refine wBlock ?_
    refine wSeq ?_
    refine wReg ?_
    refine sP rfl rfl rfl (pM rfl rfl) ?_
    refine sP rfl rfl rfl (p_index_arr rfl rfl Try.underlying53 ty3 rfl (i := i) rfl hi16 (.inr ⟨rfl, iL_at hy⟩)) ?_
    refine sP rfl rfl rfl (pA rfl rfl) ?_
    refine sP rfl rfl rfl (pA rfl rfl) ?_
    refine lNil ?_
    refine wReg ?_
    refine sP rfl rfl rfl (pM rfl rfl) ?_
    refine sP rfl rfl rfl (pM rfl rfl) ?_
    refine sP rfl rfl rfl (p_indexAddr_arr rfl rfl Try.underlying53 ty3 rfl (i := i) rfl hi16) ?_
    refine sP rfl rfl rfl (pLdO1 0 rfl rfl rfl ty3 (iL_at0 (vTo_at ha hb hi16 hx))) ?_
    refine sP rfl rfl rfl (pM rfl rfl) ?_
    refine sP rfl rfl rfl (p_max rfl rfl rfl) ?_
    refine sP rfl rfl rfl (p_indexAddr_arr rfl rfl Try.underlying53 ty3 rfl (i := i) rfl hi16) ?_
    refine sStore1 0 rfl rfl rfl rfl rfl ty3 rfl rfl (by rw [iL_len (vTo_len ha hb hi)]; omega) ?_
    refine lNil ?_
    refine wReg ?_
    refine sP rfl rfl rfl (p_iar rfl rfl rfl rfl) ?_
    refine sP rfl rfl rfl (pM rfl rfl) ?_
    refine lNil ?_
    refine ⟨_, _, [.cells g2 53 (iL (vTo max a b (i + 1))), .cells g3 53 (iL b), .cells g4 53 (iL zeroV)], [], ?_, ⟨i + 1, rfl, hi16, rfl, rfl⟩, ⟨rfl, rfl, rfl, avI (wrapI (by omega) (by omega)), trivial⟩, ?_⟩
    · omega
    · show [HObj.cells g2 _ ((iL (vTo max a b i)).set (0 + i * 1) (iA (max x y))), _, _] = _
      rw [iL_set, vTo_set ha hb hi16 hx hy]
      rfl
  · have hge : i = 16 := by have h := hc1; simp at h; omega
    subst hge
    refine wExit ?_
    refine wSeq ?_
    refine wReg ?_
    refine sP rfl rfl rfl (pLdW 0 rfl rfl rfl ty53 (iL_len (vTo_len ha hb (Nat.le_refl _)))) ?_
    refine sStore 2 rfl rfl rfl rfl rfl ty53 rfl (ones_ints _) (iL_len (vTo_len ha hb (Nat.le_refl _))) (Nat.le_of_ble_eq_true rfl) ?_
    refine lNil ?_
    refine wRet ?_
    have hsp : spl (iL zeroV) 0 (iL (vTo max a b 16)) = iL (vmax a b) := by
      rw [spl_whole (by rw [iL_len zeroV_len, iL_len (vTo_len ha hb (Nat.le_refl _))]), vTo_all ha hb]
      rfl
    exact rgs1 (rg_cell rfl (List.mem_of_getElem? (i := 2) rfl) ty53 (.inl ⟨rfl, by rw [hsp, iL_len (vmax_len ha hb)]; exact Nat.le_refl _, rfl⟩) (gives_sub (Sub.of_eq (by rw [hsp, List.take_of_length_le (by rw [iL_len (vmax_len ha hb)]; exact Nat.le_refl _)]))))
set_option maxRecDepth 100000 in
theorem vhas_p (v : List Int) (d : Int × Int) (hv : v.length = 16) : PFn Try.prog False 99 [vA v, dA d] (bA (vhas v d)) := by
  refine pfn Try.func99 rfl (by kernel_rfl) 17 rfl _ rfl (Nat.le_of_ble_eq_true rfl) (fun X w0 => ?_)
  refine wSeq ?_
  refine wReg ?_
  refine sBox rfl rfl rfl rfl rfl (fun g2 => ?_)
  refine sBox rfl rfl rfl rfl rfl (fun g3 => ?_)
  refine sP rfl rfl rfl (pA rfl rfl) ?_
  refine lNil ?_
  refine wCut (fun L h => ∃ b : Bool, b = (vhas v d) ∧ L = [(2, .x (.pointer (some ⟨g2, 0, none⟩))), (4, bA b)] ∧ h = []) ?_ ?_
  · rcases has_cases v d with ⟨e1, hbv⟩ | ⟨e1, e2, hbv⟩ | ⟨e1, e2, hbv⟩
    · refine wDraw 13 (by kernel_rfl) (by kernel_rfl) ?_
      refine sP rfl rfl rfl (pLdW 1 rfl rfl rfl ty23 rfl) ?_
      refine sP rfl rfl rfl (p_call rfl (dcheck_p d) ⟨Sub.refl, trivial⟩) ?_
      refine sP rfl rfl rfl (p_icmp rfl rfl rfl (eql0_f e1)) ?_
      refine sP rfl rfl rfl (pM rfl rfl) ?_
      refine sUx rfl rfl rfl (by decide) rfl rfl ?_
      refine sUx rfl rfl rfl (by decide) rfl rfl ?_
      refine sUx rfl rfl rfl (by decide) rfl rfl ?_
      refine sUx rfl rfl rfl (by decide) rfl rfl ?_
      refine sUx rfl rfl rfl (by decide) rfl rfl ?_
      refine sUx rfl rfl rfl (by decide) rfl rfl ?_
      refine sUx rfl rfl rfl (by decide) rfl rfl ?_
      refine sP rfl rfl rfl (p_pick rfl rfl rfl) ?_
      refine sP rfl rfl rfl (pA rfl rfl) ?_
      refine lTail ?_
      refine lNil ?_
      exact ⟨_, [], _, ⟨_, (by exact hbv.symm), rfl, rfl⟩, ⟨rfl, rfl, trivial⟩, rfl⟩
    · refine wDraw 13 (by kernel_rfl) (by kernel_rfl) ?_
      refine sP rfl rfl rfl (pLdW 1 rfl rfl rfl ty23 rfl) ?_
      refine sP rfl rfl rfl (p_call rfl (dcheck_p d) ⟨Sub.refl, trivial⟩) ?_
      refine sP rfl rfl rfl (p_icmp rfl rfl rfl (eql0_t e1)) ?_
      refine sP rfl rfl rfl (pM rfl rfl) ?_
      refine sG rfl rfl rfl rfl rfl (p_fieldAddr_own rfl rfl fl23_1 ty3 (by decide)) ?_
      refine sG rfl rfl rfl rfl rfl (pLdO1 1 rfl rfl rfl ty3 rfl) ?_
      refine sG rfl rfl rfl rfl rfl (p_fieldAddr_own rfl rfl fl23_0 ty3 (by decide)) ?_
      refine sG rfl rfl rfl rfl rfl (pLdO1 1 rfl rfl rfl ty3 rfl) ?_
      refine sG rfl rfl rfl rfl rfl (p_indexAddr_arr rfl rfl Try.underlying53 ty3 rfl (i := d.1.toNat) (by have := (chk_iff d).1 e1; omega) (by have := (chk_iff d).1 e1; omega)) ?_
      refine sG rfl rfl rfl rfl rfl (pLdO1 0 rfl rfl rfl ty3 (iL_at0 (vget_at hv ((chk_iff d).1 e1).1 ((chk_iff d).1 e1).2.1))) ?_
      refine sG rfl rfl rfl rfl rfl (p_icmp rfl rfl rfl (leqq_t e2)) ?_
      refine sP rfl rfl rfl (p_pick rfl rfl rfl) ?_
      refine sP rfl rfl rfl (pA rfl rfl) ?_
      refine lTail ?_
      refine lNil ?_
      exact ⟨_, [], _, ⟨_, (by exact hbv.symm), rfl, rfl⟩, ⟨rfl, rfl, trivial⟩, rfl⟩
    · refine wDraw 13 (by kernel_rfl) (by kernel_rfl) ?_
      refine sP rfl rfl rfl (pLdW 1 rfl rfl rfl ty23 rfl) ?_
      refine sP rfl rfl rfl (p_call rfl (dcheck_p d) ⟨Sub.refl, trivial⟩) ?_
      refine sP rfl rfl rfl (p_icmp rfl rfl rfl (eql0_t e1)) ?_
      refine sP rfl rfl rfl (pM rfl rfl) ?_
      refine sG rfl rfl rfl rfl rfl (p_fieldAddr_own rfl rfl fl23_1 ty3 (by decide)) ?_
      refine sG rfl rfl rfl rfl rfl (pLdO1 1 rfl rfl rfl ty3 rfl) ?_
      refine sG rfl rfl rfl rfl rfl (p_fieldAddr_own rfl rfl fl23_0 ty3 (by decide)) ?_
      refine sG rfl rfl rfl rfl rfl (pLdO1 1 rfl rfl rfl ty3 rfl) ?_
      refine sG rfl rfl rfl rfl rfl (p_indexAddr_arr rfl rfl Try.underlying53 ty3 rfl (i := d.1.toNat) (by have := (chk_iff d).1 e1; omega) (by have := (chk_iff d).1 e1; omega)) ?_
      refine sG rfl rfl rfl rfl rfl (pLdO1 0 rfl rfl rfl ty3 (iL_at0 (vget_at hv ((chk_iff d).1 e1).1 ((chk_iff d).1 e1).2.1))) ?_
      refine sG rfl rfl rfl rfl rfl (p_icmp rfl rfl rfl (leqq_f e2)) ?_
      refine sP rfl rfl rfl (p_pick rfl rfl rfl) ?_
      refine sP rfl rfl rfl (pA rfl rfl) ?_
      refine lTail ?_
      refine lNil ?_
      exact ⟨_, [], _, ⟨_, (by exact hbv.symm), rfl, rfl⟩, ⟨rfl, rfl, trivial⟩, rfl⟩
  · rintro L h ⟨b, hb, rfl, rfl⟩
    refine wRet ?_
    exact rgs1 (rg_tmp (gives_sub (Sub.of_eq (avB hb))))
set_option maxRecDepth 100000 in
theorem vput_p (v : List Int) (hv : v.length = 16) : PFn Try.prog False 92 [vA v] (.tup [sA (vputS v), iA (vE v)]) := by
  refine pfn Try.func92 rfl (by kernel_rfl) 29 rfl _ rfl (Nat.le_of_ble_eq_true rfl) (fun X w0 => ?_)
  refine wSeq ?_
  refine wReg ?_
  refine sBox rfl rfl rfl rfl rfl (fun g1 => ?_)
  refine sP rfl rfl rfl (pA rfl rfl) ?_
  refine sP rfl rfl rfl (pA rfl rfl) ?_
  refine lNil ?_
  refine wSeq ?_
  refine wSeq ?_
  refine wReg ?_
  refine sP rfl rfl rfl (pLdW 0 rfl rfl rfl ty53 (iL_len hv)) ?_
  refine sP rfl rfl rfl (p_call rfl (vcheck_p v hv) ⟨Sub.refl, trivial⟩) ?_
  refine sP rfl rfl rfl (pA rfl rfl) ?_
  refine lNil ?_
  refine wSeq ?_
  refine wReg ?_
  refine sP rfl rfl rfl (pM rfl rfl) ?_
  refine sP rfl rfl rfl (p_icmp rfl rfl rfl rfl) ?_
  refine lNil ?_
  refine wCond rfl (fun hc1 => ?_) (fun hc1 => ?_)
  · refine wSeq ?_
    refine wReg ?_
    refine sP rfl rfl rfl (pM rfl rfl) ?_
    refine sP rfl rfl rfl (pA rfl rfl) ?_
    refine sP rfl rfl rfl (pA rfl rfl) ?_
    refine lNil ?_
    refine wRet ?_
    have h : vE v ≠ 0 := by simpa using hc1
    exact rgs2 (rg_tmp (gives_sub (Sub.of_eq (avS (vputS_err h).symm)))) (rg_tmp (gives_sub Sub.refl))
  · have hz : vE v = 0 := by simpa using hc1
    refine wSkip ?_
    refine wSeq ?_
    refine wReg ?_
    refine sP rfl rfl rfl (pA rfl rfl) ?_
    refine lNil ?_
    refine wSeq ?_
    refine wSeq ?_
    refine wReg ?_
    refine sP rfl rfl rfl (pLdW 0 rfl rfl rfl ty53 (iL_len hv)) ?_
    refine sP rfl rfl rfl (pM rfl rfl) ?_
    refine lNil ?_
    refine wBlock ?_
    refine wLoop (fun mm L h => ∃ i s, mm = 16 - i ∧ i ≤ 16 ∧ s = cat ((v.take i).map numS) ∧ L = [(5, sA s), (15, vA v), (16, iA (i : Nat))] ∧ h = []) ⟨_, _, _, _, ⟨0, _, rfl, Nat.zero_le _, rfl, rfl, rfl⟩, ⟨rfl, rfl, rfl, trivial⟩, rfl⟩ ?_
    rintro mm L h ⟨i, s, rfl, hi, hs, rfl, rfl⟩
    refine wSeq ?_
    refine wReg ?_
    refine sP rfl rfl rfl (p_icmp rfl rfl rfl rfl) ?_
    refine lNil ?_
    refine wSeq ?_
    refine wCond rfl (fun hc2 => ?_) (fun hc2 => ?_)
    · have hi16 : i < 16 := by have h := hc2; simp at h; omega
      obtain ⟨x, hx⟩ : ∃ x, v[i]? = some x := getL (by omega)
      have hsz : s.size ≤ 128 := by rw [hs]; exact nums16 v hv i
      have hnz := numS_size x
      refine wSkip ?_
      refine wSeq ?_
      refine wBlock ?_
      refine wSeq ?_
      refine wReg ?_
      refine sP rfl rfl rfl (p_index_arr rfl rfl Try.underlying53 ty3 rfl (i := i) rfl hi16 (.inr ⟨rfl, iL_at hx⟩)) ?_
      refine sP rfl rfl rfl (pA rfl rfl) ?_
      refine lNil ?_
      refine wSeq ?_
      refine wReg ?_
      refine sP rfl rfl rfl (pM rfl rfl) ?_
      refine sP rfl rfl rfl (p_call rfl (num_p x) ⟨Sub.refl, trivial⟩) ?_
      refine sP rfl rfl rfl (pMt rfl rfl) ?_
      refine sP rfl rfl rfl (p_extract rfl rfl rfl) ?_
      refine sP rfl rfl rfl (p_extract rfl rfl rfl) ?_
      refine sP rfl rfl rfl (pA rfl rfl) ?_
      refine sP rfl rfl rfl (pA rfl rfl) ?_
      refine lNil ?_
      refine wReg ?_
      refine sP rfl rfl rfl (pM rfl rfl) ?_
      refine sP rfl rfl rfl (pM rfl rfl) ?_
      refine sP rfl rfl rfl (p_sadd rfl rfl rfl (by omega)) ?_
      refine sP rfl rfl rfl (pA rfl rfl) ?_
      refine lNil ?_
      refine wReg ?_
      refine sP rfl rfl rfl (p_iar rfl rfl rfl rfl) ?_
      refine sP rfl rfl rfl (pM rfl rfl) ?_
      refine lNil ?_
      refine ⟨_, _, [], [], ?_, ⟨i + 1, _, rfl, hi16, ?_, rfl, rfl⟩, ⟨rfl, rfl, avI (wrapI (by omega) (by omega)), trivial⟩, rfl⟩
      · omega
      · rw [hs]; exact cat_take0 numS hx
    · have hge : i = 16 := by have h := hc2; simp at h; omega
      subst hge
      refine wExit ?_
      refine wSeq ?_
      refine wReg ?_
      refine sP rfl rfl rfl (pM rfl rfl) ?_
      refine sP rfl rfl rfl (pA rfl rfl) ?_
      refine sP rfl rfl rfl (pA rfl rfl) ?_
      refine lNil ?_
      refine wRet ?_
      have hS : s = vputS v := by rw [vputS_ok hz, hs, List.take_of_length_le (by omega)]
      exact rgs2 (rg_tmp (gives_sub (Sub.of_eq (avS hS)))) (rg_tmp (gives_sub (Sub.of_eq (avI hz.symm))))
end Go.Proofs.Ytmhkalalcmkpbaa

namespace Go.Proofs.Ytmhkalalcmkpbaa
open Go Go.RowKit
set_option linter.unusedVariables false
set_option linter.unusedSimpArgs false

def vpad (st : ByteArray × Int) (i : Nat) : List Int := (rdV i st).1 ++ List.replicate (16 - i) 0
theorem vpad_len (st : ByteArray × Int) {i : Nat} (h : i ≤ 16) : (vpad st i).length = 16 := by unfold vpad; rw [List.length_append, rdV_len, List.length_replicate]; omega
theorem vpad_set (st : ByteArray × Int) {i : Nat} (h : i < 16) : (vpad st i).set i ((rdN (rdV i st).2).1 : Int) = vpad st (i + 1) := by
  unfold vpad
  have hl := rdV_len i st
  rw [List.set_append_right _ _ (by omega), hl, Nat.sub_self, show 16 - i = (16 - (i + 1)) + 1 by omega, List.replicate_succ, List.set_cons_zero]
  show _ = ((rdV i st).1 ++ [_]) ++ _
  rw [List.append_assoc]; rfl
theorem vpad_all (st : ByteArray × Int) : vpad st 16 = (rdV 16 st).1 := by unfold vpad; rw [Nat.sub_self, List.replicate_zero, List.append_nil]

set_option maxRecDepth 100000 in
theorem rvcheck_p (v : List Int) (hv : v.length = 16) : PFn Try.prog False 97 [vA v] (iA (vE v)) := by
  refine pfn Try.func97 rfl (by kernel_rfl) 18 rfl _ rfl (Nat.le_of_ble_eq_true rfl) (fun X w0 => ?_)
  refine wSeq ?_
  refine wReg ?_
  refine sBox rfl rfl rfl rfl rfl (fun g1 => ?_)
  refine sP rfl rfl rfl (pA rfl rfl) ?_
  refine lNil ?_
  refine wSeq ?_
  refine wSeq ?_
  refine wReg ?_
  refine sP rfl rfl rfl (pA rfl rfl) ?_
  refine lNil ?_
  refine wBlock ?_
  refine wLoop (fun mm L h => ∃ i, mm = 16 - i ∧ i ≤ 16 ∧ (∀ j y, j < i → v[j]? = some y → vOk y = true) ∧ L = [(1, .x (.pointer (some ⟨g1, 0, none⟩))), (3, iA (i : Nat))] ∧ h = [.cells g1 53 (iL v)]) ⟨_, _, _, _, ⟨0, rfl, Nat.zero_le _, fun j y hj => absurd hj (by omega), rfl, rfl⟩, ⟨rfl, rfl, trivial⟩, rfl⟩ ?_
  rintro mm L h ⟨i, rfl, hi, h0, rfl, rfl⟩
  refine wSeq ?_
  refine wSeq ?_
  refine wReg ?_
  refine sP rfl rfl rfl (pM rfl rfl) ?_
  refine sP rfl rfl rfl (p_icmp rfl rfl rfl rfl) ?_
  refine lNil ?_
  refine wCond rfl (fun hc1 => ?_) (fun hc1 => ?_)
  · have hi16 : i < 16 := by have h := hc1; simp at h; omega
    obtain ⟨x, hx⟩ : ∃ x, v[i]? = some x := getL (by omega)
    refine wSkip ?_
    refine wSeq ?_
    refine wBlock ?_
    refine wCut (fun L h => ∃ b : Bool, b = (badN x) ∧ L = [(1, .x (.pointer (some ⟨g1, 0, none⟩))), (3, iA (i : Nat)), (17, bA b)] ∧ h = [.cells g1 53 (iL v)]) ?_ ?_
    · cases hb : (decide (x < 0)) with
      | true =>
        refine wReg ?_
        refine sP rfl rfl rfl (pM rfl rfl) ?_
        refine sP rfl rfl rfl (p_indexAddr_arr rfl rfl Try.underlying53 ty3 rfl (i := i) rfl hi16) ?_
        refine sP rfl rfl rfl (pLdO1 0 rfl rfl rfl ty3 (iL_at0 hx)) ?_
        refine sP rfl rfl rfl (p_icmp rfl rfl rfl (congrArg some hb)) ?_
        refine sP rfl rfl rfl (pM rfl rfl) ?_
        refine sU rfl rfl rfl (by decide) rfl rfl ?_
        refine sU rfl rfl rfl (by decide) rfl rfl ?_
        refine sU rfl rfl rfl (by decide) rfl rfl ?_
        refine sU rfl rfl rfl (by decide) rfl rfl ?_
        refine sP rfl rfl rfl (p_pick rfl rfl rfl) ?_
        refine lNil ?_
        exact ⟨_, [.cells g1 53 (iL v)], [], ⟨_, (by exact (by unfold badN; rw [hb]; rfl)), rfl, rfl⟩, ⟨rfl, rfl, rfl, trivial⟩, rfl⟩
      | false =>
        refine wReg ?_
        refine sP rfl rfl rfl (pM rfl rfl) ?_
        refine sP rfl rfl rfl (p_indexAddr_arr rfl rfl Try.underlying53 ty3 rfl (i := i) rfl hi16) ?_
        refine sP rfl rfl rfl (pLdO1 0 rfl rfl rfl ty3 (iL_at0 hx)) ?_
        refine sP rfl rfl rfl (p_icmp rfl rfl rfl (congrArg some hb)) ?_
        refine sP rfl rfl rfl (pM rfl rfl) ?_
        refine sG rfl rfl rfl rfl rfl (pM rfl rfl) ?_
        refine sG rfl rfl rfl rfl rfl (p_indexAddr_arr rfl rfl Try.underlying53 ty3 rfl (i := i) rfl hi16) ?_
        refine sG rfl rfl rfl rfl rfl (pLdO1 0 rfl rfl rfl ty3 (iL_at0 hx)) ?_
        refine sG rfl rfl rfl rfl rfl (p_icmp rfl rfl rfl rfl) ?_
        refine sP rfl rfl rfl (p_pick rfl rfl rfl) ?_
        refine lNil ?_
        exact ⟨_, [.cells g1 53 (iL v)], [], ⟨_, (by exact (by unfold badN; rw [hb]; rfl)), rfl, rfl⟩, ⟨rfl, rfl, rfl, trivial⟩, rfl⟩
    · rintro L h ⟨b, hb, rfl, rfl⟩
      refine wCond rfl (fun hc2 => ?_) (fun hc2 => ?_)
      · refine wSeq ?_
        refine wReg ?_
        refine sP rfl rfl rfl (pA rfl rfl) ?_
        refine lNil ?_
        refine wRet ?_
        exact rgs1 (rg_tmp (gives_sub (Sub.of_eq (avI (vE_bad hx (hb.symm.trans hc2)).symm))))
      · refine wSkip ?_
        refine wReg ?_
        refine sP rfl rfl rfl (pM rfl rfl) ?_
        refine sP rfl rfl rfl (p_iar rfl rfl rfl rfl) ?_
        refine sP rfl rfl rfl (pA rfl rfl) ?_
        refine lNil ?_
        have hok := badN_ok (hb.symm.trans hc2)
        refine ⟨_, _, [.cells g1 53 (iL v)], [], ?_, ⟨i + 1, rfl, hi16, fun j y hj hy => ?_, rfl, rfl⟩, ⟨rfl, avI (wrapI (by omega) (by omega)), trivial⟩, rfl⟩
        · omega
        · rcases Nat.lt_or_ge j i with h | h
          · exact h0 j y h hy
          · obtain rfl : j = i := by omega
            rw [hx] at hy; injection hy with hy; rw [← hy]; exact hok
  · have hge : i = 16 := by have h := hc1; simp at h; omega
    subst hge
    refine wExit ?_
    refine wSeq ?_
    refine wReg ?_
    refine sP rfl rfl rfl (pA rfl rfl) ?_
    refine lNil ?_
    refine wRet ?_
    exact rgs1 (rg_tmp (gives_sub (Sub.of_eq (avI (vE_all fun j y hy => h0 j y (by have := (List.getElem?_eq_some_iff.1 hy).1; omega) hy).symm))))
set_option maxRecDepth 100000 in
theorem rvjoin_p (a b : List Int) (ha : a.length = 16) (hb : b.length = 16) : PFn Try.prog False 122 [vA a, vA b] (vA (vmax a b)) := by
  refine pfn Try.func122 rfl (by kernel_rfl) 20 rfl _ rfl (Nat.le_of_ble_eq_true rfl) (fun X w0 => ?_)
  refine wSeq ?_
  refine wReg ?_
  refine sBox rfl rfl rfl rfl rfl (fun g2 => ?_)
  refine sBox rfl rfl rfl rfl rfl (fun g3 => ?_)
  refine sAlloc rfl rfl rfl rfl ze53 (fun g4 => ?_)
  refine lNil ?_
  refine wSeq ?_
  refine wSeq ?_
  refine wReg ?_
  refine sP rfl rfl rfl (pA rfl rfl) ?_
  refine lNil ?_
  refine wBlock ?_
  refine wLoop (fun mm L h => ∃ i, mm = 16 - i ∧ i ≤ 16 ∧ L = [(2, .x (.pointer (some ⟨g2, 0, none⟩))), (3, .x (.pointer (some ⟨g3, 0, none⟩))), (4, .x (.pointer (some ⟨g4, 0, none⟩))), (5, iA (i : Nat))] ∧ h = [.cells g2 53 (iL (vTo max a b i)), .cells g3 53 (iL b), .cells g4 53 (iL zeroV)]) ⟨_, _, [.cells g2 53 (iL a), .cells g3 53 (iL b), .cells g4 53 (iL zeroV)], _, ⟨0, rfl, Nat.zero_le _, rfl, by rw [vTo_zero]⟩, ⟨rfl, rfl, rfl, rfl, trivial⟩, rfl⟩ ?_
  rintro mm L h ⟨i, rfl, hi, rfl, rfl⟩
  refine wSeq ?_
  refine wSeq ?_
  refine wReg ?_
  refine sP rfl rfl rfl (pM rfl rfl) ?_
  refine sP rfl rfl rfl (p_icmp rfl rfl rfl rfl) ?_
  refine lNil ?_
  refine wCond rfl (fun hc1 => ?_) (fun hc1 => ?_)
  · have hi16 : i < 16 := by have h := hc1; simp at h; omega
    obtain ⟨x, hx⟩ : ∃ x, a[i]? = some x := getL (by omega)
    obtain ⟨y, hy⟩ : ∃ y, b[i]? = some y := getL (by omega)
    refine wSkip ?_
    refine wSeq ?_
    refine wBlock ?_
    refine wDraw 9 (by kernel_rfl) (by kernel_rfl) ?_
    refine sP rfl rfl rfl (pM rfl rfl) ?_
    refine sP rfl rfl rfl (pM rfl rfl) ?_
    refine sP rfl rfl rfl (p_indexAddr_arr rfl rfl Try.underlying53 ty3 rfl (i := i) rfl hi16) ?_
    refine sP rfl rfl rfl (pLdO1 0 rfl rfl rfl ty3 (iL_at0 (vTo_at ha hb hi16 hx))) ?_
    refine sP rfl rfl rfl (pM rfl rfl) ?_
    refine sP rfl rfl rfl (p_indexAddr_arr rfl rfl Try.underlying53 ty3 rfl (i := i) rfl hi16) ?_
    refine sP rfl rfl rfl (pLdO1 1 rfl rfl rfl ty3 (iL_at0 hy)) ?_
    refine sP rfl rfl rfl (p_max rfl rfl rfl) ?_
    refine sP rfl rfl rfl (p_indexAddr_arr rfl rfl Try.underlying53 ty3 rfl (i := i) rfl hi16) ?_
    refine lTail ?_
    refine sStore1 0 rfl rfl rfl rfl rfl ty3 rfl rfl (by rw [iL_len (vTo_len ha hb hi)]; omega) ?_
    refine lNil ?_
    refine wReg ?_
    refine sP rfl rfl rfl (pM rfl rfl) ?_
    refine sP rfl rfl rfl (p_iar rfl rfl rfl rfl) ?_
    refine sP rfl rfl rfl (pA rfl rfl) ?_
    refine lNil ?_
    refine ⟨_, _, [.cells g2 53 (iL (vTo max a b (i + 1))), .cells g3 53 (iL b), .cells g4 53 (iL zeroV)], [], ?_, ⟨i + 1, rfl, hi16, rfl, rfl⟩, ⟨rfl, rfl, rfl, avI (wrapI (by omega) (by omega)), trivial⟩, ?_⟩
    · omega
    · show [HObj.cells g2 _ ((iL (vTo max a b i)).set (0 + i * 1) (iA (max x y))), _, _] = _
      rw [iL_set, vTo_set ha hb hi16 hx hy]
      rfl
  · have hge : i = 16 := by have h := hc1; simp at h; omega
    subst hge
    refine wExit ?_
    refine wSeq ?_
    refine wReg ?_
    refine sP rfl rfl rfl (pLdW 0 rfl rfl rfl ty53 (iL_len (vTo_len ha hb (Nat.le_refl _)))) ?_
    refine sStore 2 rfl rfl rfl rfl rfl ty53 rfl (ones_ints _) (iL_len (vTo_len ha hb (Nat.le_refl _))) (Nat.le_of_ble_eq_true rfl) ?_
    refine lNil ?_
    refine wRet ?_
    have hsp : spl (iL zeroV) 0 (iL (vTo max a b 16)) = iL (vmax a b) := by
      rw [spl_whole (by rw [iL_len zeroV_len, iL_len (vTo_len ha hb (Nat.le_refl _))]), vTo_all ha hb]
      rfl
    exact rgs1 (rg_cell rfl (List.mem_of_getElem? (i := 2) rfl) ty53 (.inl ⟨rfl, by rw [hsp, iL_len (vmax_len ha hb)]; exact Nat.le_refl _, rfl⟩) (gives_sub (Sub.of_eq (by rw [hsp, List.take_of_length_le (by rw [iL_len (vmax_len ha hb)]; exact Nat.le_refl _)]))))
set_option maxRecDepth 100000 in
theorem rvhas_p (v : List Int) (d : Int × Int) (hv : v.length = 16) : PFn Try.prog False 119 [vA v, dA d] (bA (vhas v d)) := by
  refine pfn Try.func119 rfl (by kernel_rfl) 17 rfl _ rfl (Nat.le_of_ble_eq_true rfl) (fun X w0 => ?_)
  refine wSeq ?_
  refine wReg ?_
  refine sBox rfl rfl rfl rfl rfl (fun g2 => ?_)
  refine sBox rfl rfl rfl rfl rfl (fun g3 => ?_)
  refine sP rfl rfl rfl (pA rfl rfl) ?_
  refine lNil ?_
  refine wCut (fun L h => ∃ b : Bool, b = (vhas v d) ∧ L = [(2, .x (.pointer (some ⟨g2, 0, none⟩))), (4, bA b)] ∧ h = []) ?_ ?_
  · rcases has_cases v d with ⟨e1, hbv⟩ | ⟨e1, e2, hbv⟩ | ⟨e1, e2, hbv⟩
    · refine wDraw 13 (by kernel_rfl) (by kernel_rfl) ?_
      refine sP rfl rfl rfl (pLdW 1 rfl rfl rfl ty23 rfl) ?_
      refine sP rfl rfl rfl (p_call rfl (rdcheck_p d) ⟨Sub.refl, trivial⟩) ?_
      refine sP rfl rfl rfl (p_icmp rfl rfl rfl (eql0_f e1)) ?_
      refine sP rfl rfl rfl (pM rfl rfl) ?_
      refine sUx rfl rfl rfl (by decide) rfl rfl ?_
      refine sUx rfl rfl rfl (by decide) rfl rfl ?_
      refine sUx rfl rfl rfl (by decide) rfl rfl ?_
      refine sUx rfl rfl rfl (by decide) rfl rfl ?_
      refine sUx rfl rfl rfl (by decide) rfl rfl ?_
      refine sUx rfl rfl rfl (by decide) rfl rfl ?_
      refine sUx rfl rfl rfl (by decide) rfl rfl ?_
      refine sP rfl rfl rfl (p_pick rfl rfl rfl) ?_
      refine sP rfl rfl rfl (pA rfl rfl) ?_
      refine lTail ?_
      refine lNil ?_
      exact ⟨_, [], _, ⟨_, (by exact hbv.symm), rfl, rfl⟩, ⟨rfl, rfl, trivial⟩, rfl⟩
    · refine wDraw 13 (by kernel_rfl) (by kernel_rfl) ?_
      refine sP rfl rfl rfl (pLdW 1 rfl rfl rfl ty23 rfl) ?_
      refine sP rfl rfl rfl (p_call rfl (rdcheck_p d) ⟨Sub.refl, trivial⟩) ?_
      refine sP rfl rfl rfl (p_icmp rfl rfl rfl (eql0_t e1)) ?_
      refine sP rfl rfl rfl (pM rfl rfl) ?_
      refine sG rfl rfl rfl rfl rfl (p_fieldAddr_own rfl rfl fl23_1 ty3 (by decide)) ?_
      refine sG rfl rfl rfl rfl rfl (pLdO1 1 rfl rfl rfl ty3 rfl) ?_
      refine sG rfl rfl rfl rfl rfl (p_fieldAddr_own rfl rfl fl23_0 ty3 (by decide)) ?_
      refine sG rfl rfl rfl rfl rfl (pLdO1 1 rfl rfl rfl ty3 rfl) ?_
      refine sG rfl rfl rfl rfl rfl (p_indexAddr_arr rfl rfl Try.underlying53 ty3 rfl (i := d.1.toNat) (by have := (chk_iff d).1 e1; omega) (by have := (chk_iff d).1 e1; omega)) ?_
      refine sG rfl rfl rfl rfl rfl (pLdO1 0 rfl rfl rfl ty3 (iL_at0 (vget_at hv ((chk_iff d).1 e1).1 ((chk_iff d).1 e1).2.1))) ?_
      refine sG rfl rfl rfl rfl rfl (p_icmp rfl rfl rfl (leqq_t e2)) ?_
      refine sP rfl rfl rfl (p_pick rfl rfl rfl) ?_
      refine sP rfl rfl rfl (pA rfl rfl) ?_
      refine lTail ?_
      refine lNil ?_
      exact ⟨_, [], _, ⟨_, (by exact hbv.symm), rfl, rfl⟩, ⟨rfl, rfl, trivial⟩, rfl⟩
    · refine wDraw 13 (by kernel_rfl) (by kernel_rfl) ?_
      refine sP rfl rfl rfl (pLdW 1 rfl rfl rfl ty23 rfl) ?_
      refine sP rfl rfl rfl (p_call rfl (rdcheck_p d) ⟨Sub.refl, trivial⟩) ?_
      refine sP rfl rfl rfl (p_icmp rfl rfl rfl (eql0_t e1)) ?_
      refine sP rfl rfl rfl (pM rfl rfl) ?_
      refine sG rfl rfl rfl rfl rfl (p_fieldAddr_own rfl rfl fl23_1 ty3 (by decide)) ?_
      refine sG rfl rfl rfl rfl rfl (pLdO1 1 rfl rfl rfl ty3 rfl) ?_
      refine sG rfl rfl rfl rfl rfl (p_fieldAddr_own rfl rfl fl23_0 ty3 (by decide)) ?_
      refine sG rfl rfl rfl rfl rfl (pLdO1 1 rfl rfl rfl ty3 rfl) ?_
      refine sG rfl rfl rfl rfl rfl (p_indexAddr_arr rfl rfl Try.underlying53 ty3 rfl (i := d.1.toNat) (by have := (chk_iff d).1 e1; omega) (by have := (chk_iff d).1 e1; omega)) ?_
      refine sG rfl rfl rfl rfl rfl (pLdO1 0 rfl rfl rfl ty3 (iL_at0 (vget_at hv ((chk_iff d).1 e1).1 ((chk_iff d).1 e1).2.1))) ?_
      refine sG rfl rfl rfl rfl rfl (p_icmp rfl rfl rfl (leqq_f e2)) ?_
      refine sP rfl rfl rfl (p_pick rfl rfl rfl) ?_
      refine sP rfl rfl rfl (pA rfl rfl) ?_
      refine lTail ?_
      refine lNil ?_
      exact ⟨_, [], _, ⟨_, (by exact hbv.symm), rfl, rfl⟩, ⟨rfl, rfl, trivial⟩, rfl⟩
  · rintro L h ⟨b, hb, rfl, rfl⟩
    refine wRet ?_
    exact rgs1 (rg_tmp (gives_sub (Sub.of_eq (avB hb))))
end Go.Proofs.Ytmhkalalcmkpbaa

namespace Go.Proofs.Ytmhkalalcmkpbaa
open Go.ChangeShapes Go.WideShapes Go.ChangeAt Go.RowKit Go.Deep
set_option linter.unusedVariables false
set_option linter.unusedSimpArgs false

end Go.Proofs.Ytmhkalalcmkpbaa

namespace Go.Proofs.Ytmhkalalcmkpbaa
open Go Go.RowKit
set_option linter.unusedVariables false
set_option linter.unusedSimpArgs false

theorem neq_t {a : Int} (h : a ≠ 0) : icmp .neq a 0 = some true := congrArg some (by simp [h])
theorem neq_f {a : Int} (h : a = 0) : icmp .neq a 0 = some false := congrArg some (by simp [h])
theorem eql_t {a b : Int} (h : a = b) : icmp .eql a b = some true := congrArg some (decide_eq_true h)
end Go.Proofs.Ytmhkalalcmkpbaa

namespace Go.Proofs.Ytmhkalalcmkpbaa
open Go Go.RowKit
set_option linter.unusedVariables false
set_option linter.unusedSimpArgs false

def encCt (c : CtxT) : List AV := iL c.1 ++ [slD c.2]
abbrev ctA (c : CtxT) : AV := .agg (encCt c)
theorem v16 {v : List Int} (h : v.length = 16) : ∃ a0 a1 a2 a3 a4 a5 a6 a7 a8 a9 a10 a11 a12 a13 a14 a15 : Int, v = [a0, a1, a2, a3, a4, a5, a6, a7, a8, a9, a10, a11, a12, a13, a14, a15] := by
  match v, h with
  | [a0, a1, a2, a3, a4, a5, a6, a7, a8, a9, a10, a11, a12, a13, a14, a15], _ => exact ⟨a0, a1, a2, a3, a4, a5, a6, a7, a8, a9, a10, a11, a12, a13, a14, a15, rfl⟩
theorem ctx_len {v : List Int} {a : AV} (h : v.length = 16) : (iL v ++ [a]).length = 17 := by rw [List.length_append, iL_len h]; rfl
theorem ctx_le {v : List Int} {a : AV} (h : v.length = 16) : 0 + 0 + 16 ≤ (iL v ++ [a]).length := by rw [ctx_len h]; omega
theorem ctx_V {v : List Int} {a : AV} (h : v.length = 16) : ((iL v ++ [a]).drop 0).take 16 = iL v := by obtain ⟨a0, a1, a2, a3, a4, a5, a6, a7, a8, a9, a10, a11, a12, a13, a14, a15, rfl⟩ := v16 h; rfl
theorem ctx_C {v : List Int} {a : AV} (h : v.length = 16) : (iL v ++ [a])[16]? = some a := by obtain ⟨a0, a1, a2, a3, a4, a5, a6, a7, a8, a9, a10, a11, a12, a13, a14, a15, rfl⟩ := v16 h; rfl
theorem ctx_at {v : List Int} {a : AV} {i : Nat} {x : Int} (h : v[i]? = some x) : (iL v ++ [a])[0 + i * 1]? = some (iA x) := by
  have hl : 0 + i * 1 < (iL v).length := by rw [List.length_map]; have := (List.getElem?_eq_some_iff.1 h).1; omega
  rw [List.getElem?_append_left hl]; exact iL_at0 h
theorem ctx_set {v : List Int} {a : AV} {i : Nat} {x : Int} (h : i < v.length) : (iL v ++ [a]).set (0 + i * 1) (iA x) = iL (v.set i x) ++ [a] := by
  rw [List.set_append_left _ _ (by rw [List.length_map]; omega), iL_set]
theorem ctx_setC {v : List Int} {a b : AV} (h : v.length = 16) : (iL v ++ [a]).set 16 b = iL v ++ [b] := by obtain ⟨a0, a1, a2, a3, a4, a5, a6, a7, a8, a9, a10, a11, a12, a13, a14, a15, rfl⟩ := v16 h; rfl
theorem ctx_ones {v : List Int} {k n : Nat} {cs : List AV} (h : v.length = 16) : AV.ones (iL v ++ [.sl k n cs]) = true := by obtain ⟨a0, a1, a2, a3, a4, a5, a6, a7, a8, a9, a10, a11, a12, a13, a14, a15, rfl⟩ := v16 h; rfl
theorem ctx_fill {v : List Int} {k n : Nat} {cs : List AV} (h : v.length = 16) : fillA (([(0, 16), (16, 1)] : List (Nat × Nat))[·]?) (([.int .i64 0, .int .i64 0, .int .i64 0, .int .i64 0, .int .i64 0, .int .i64 0, .int .i64 0, .int .i64 0, .int .i64 0, .int .i64 0, .int .i64 0, .int .i64 0, .int .i64 0, .int .i64 0, .int .i64 0, .int .i64 0, .slice none 0 0] : List Value).map .x) [(0, .agg (iL v)), (1, .sl k n cs)] = some (iL v ++ [.sl k n cs]) := by obtain ⟨a0, a1, a2, a3, a4, a5, a6, a7, a8, a9, a10, a11, a12, a13, a14, a15, rfl⟩ := v16 h; rfl
theorem ctx_spl {xs ys : List AV} (h : xs.length = 17) (h2 : ys.length = 17) : spl xs 0 ys = ys := spl_whole (by rw [h, h2])
theorem vhas_is {v : List Int} {d : Int × Int} {b : Bool} (hv : v.length = 16) (h : vhas v d = b) : PFn Try.prog False 99 [vA v, dA d] (bA b) := h ▸ vhas_p v d hv
theorem dcontains_is {l : List (Int × Int)} {x : Int × Int} {b : Bool} (hn : l.length < 1000000) (h : decide (x ∈ l) = b) : PFn Try.prog False 100 [slD l, dA x] (bA b) := h ▸ dcontains_p l x hn
theorem dequal_is {a b : List (Int × Int)} {r : Bool} (ha : a.length < 1000000) (hb : b.length < 1000000) (h : decide (a = b) = r) : PFn Try.prog False 153 [slD a, slD b] (bA r) := h ▸ dequal_p a b ha hb
theorem eqV_t {w : World} {v u : List Int} (hv : v.length = 16) (hu : u.length = 16) (h : v = u) : (Op.equalIn 10000 53 (.agg (AV.vals (iL v)).toArray) (.agg (AV.vals (iL u)).toArray)).run Try.prog w = .ok true w := by rw [eqV w v u hv hu, decide_eq_true h]
theorem eqV_f {w : World} {v u : List Int} (hv : v.length = 16) (hu : u.length = 16) (h : v ≠ u) : (Op.equalIn 10000 53 (.agg (AV.vals (iL v)).toArray) (.agg (AV.vals (iL u)).toArray)).run Try.prog w = .ok false w := by rw [eqV w v u hv hu, decide_eq_false h]
theorem hasC_cases (c : CtxT) (d : Int × Int) : (vhas c.1 d = true ∧ hasC c d = true) ∨ (vhas c.1 d = false ∧ chk d ≠ 0 ∧ hasC c d = false) ∨ (vhas c.1 d = false ∧ chk d = 0 ∧ d ∈ c.2 ∧ hasC c d = true) ∨ (vhas c.1 d = false ∧ chk d = 0 ∧ d ∉ c.2 ∧ hasC c d = false) := by
  unfold hasC
  cases h : vhas c.1 d with
  | true => exact .inl ⟨rfl, rfl⟩
  | false =>
    by_cases h1 : chk d = 0
    · by_cases h2 : d ∈ c.2
      · exact .inr (.inr (.inl ⟨rfl, h1, h2, by rw [decide_eq_true h1, decide_eq_true h2]; rfl⟩))
      · exact .inr (.inr (.inr ⟨rfl, h1, h2, by rw [decide_eq_false h2]; simp⟩))
    · exact .inr (.inl ⟨rfl, h1, by rw [decide_eq_false h1]; rfl⟩)
theorem eqC_cases (a b : CtxT) : (a.1 ≠ b.1 ∧ decide (a = b) = false) ∨ (a.1 = b.1 ∧ a.2 ≠ b.2 ∧ decide (a = b) = false) ∨ (a.1 = b.1 ∧ a.2 = b.2 ∧ decide (a = b) = true) := by
  by_cases h1 : a.1 = b.1
  · by_cases h2 : a.2 = b.2
    · exact .inr (.inr ⟨h1, h2, decide_eq_true (Prod.ext h1 h2)⟩)
    · exact .inr (.inl ⟨h1, h2, decide_eq_false fun e => h2 (by rw [e])⟩)
  · exact .inl ⟨h1, decide_eq_false fun e => h1 (by rw [e])⟩

set_option maxRecDepth 100000 in
theorem chas_p (c : CtxT) (d : Int × Int) (hv : c.1.length = 16) (hn : c.2.length < 1000000) : PFn Try.prog False 40 [ctA c, dA d] (bA (hasC c d)) := by
  refine pfn Try.func40 rfl (by kernel_rfl) 20 rfl _ rfl (Nat.le_of_ble_eq_true rfl) (fun X w0 => ?_)
  refine wSeq ?_
  refine wReg ?_
  refine sBox rfl rfl rfl rfl rfl (fun g2 => ?_)
  refine sBox rfl rfl rfl rfl rfl (fun g3 => ?_)
  refine sP rfl rfl rfl (pA rfl rfl) ?_
  refine lNil ?_
  refine wCut (fun L h => ∃ b : Bool, b = (hasC c d) ∧ L = [(2, .x (.pointer (some ⟨g2, 0, none⟩))), (4, bA b)] ∧ h = []) ?_ ?_
  · rcases hasC_cases c d with ⟨e1, hbv⟩ | ⟨e1, e2, hbv⟩ | ⟨e1, e2, e3, hbv⟩ | ⟨e1, e2, e3, hbv⟩
    · refine wReg ?_
      refine sP rfl rfl rfl (p_fieldAddr_own rfl rfl fl55_0 ty53 (by decide)) ?_
      refine sP rfl rfl rfl (pLdO 0 rfl rfl rfl ty53 (ctx_le hv) (ctx_V hv)) ?_
      refine sP rfl rfl rfl (pLdW 1 rfl rfl rfl ty23 rfl) ?_
      refine sP rfl rfl rfl (p_call rfl (vhas_is hv e1) ⟨Sub.refl, Sub.refl, trivial⟩) ?_
      refine sP rfl rfl rfl (pM rfl rfl) ?_
      refine sUx rfl rfl rfl (by decide) rfl rfl ?_
      refine sUx rfl rfl rfl (by decide) rfl rfl ?_
      refine sUx rfl rfl rfl (by decide) rfl rfl ?_
      refine sUx rfl rfl rfl (by decide) rfl rfl ?_
      refine sNx rfl rfl rfl rfl rfl ?_
      refine sNx rfl rfl rfl rfl rfl ?_
      refine sNx rfl rfl rfl rfl rfl ?_
      refine sNx rfl rfl rfl rfl rfl ?_
      refine sUx rfl rfl rfl (by decide) rfl rfl ?_
      refine sP rfl rfl rfl (p_pick rfl rfl rfl) ?_
      refine sP rfl rfl rfl (pA rfl rfl) ?_
      refine lNil ?_
      exact ⟨_, [], _, ⟨_, (by exact hbv.symm), rfl, rfl⟩, ⟨rfl, rfl, trivial⟩, rfl⟩
    · refine wReg ?_
      refine sP rfl rfl rfl (p_fieldAddr_own rfl rfl fl55_0 ty53 (by decide)) ?_
      refine sP rfl rfl rfl (pLdO 0 rfl rfl rfl ty53 (ctx_le hv) (ctx_V hv)) ?_
      refine sP rfl rfl rfl (pLdW 1 rfl rfl rfl ty23 rfl) ?_
      refine sP rfl rfl rfl (p_call rfl (vhas_is hv e1) ⟨Sub.refl, Sub.refl, trivial⟩) ?_
      refine sP rfl rfl rfl (pM rfl rfl) ?_
      refine sG rfl rfl rfl rfl rfl (pLdW 1 rfl rfl rfl ty23 rfl) ?_
      refine sG rfl rfl rfl rfl rfl (p_call rfl (dcheck_p d) ⟨Sub.refl, trivial⟩) ?_
      refine sG rfl rfl rfl rfl rfl (p_icmp rfl rfl rfl (eql0_f e2)) ?_
      refine sG rfl rfl rfl rfl rfl (pM rfl rfl) ?_
      refine sUx rfl rfl rfl (by decide) rfl rfl ?_
      refine sUx rfl rfl rfl (by decide) rfl rfl ?_
      refine sUx rfl rfl rfl (by decide) rfl rfl ?_
      refine sUx rfl rfl rfl (by decide) rfl rfl ?_
      refine sG rfl rfl rfl rfl rfl (p_pick rfl rfl rfl) ?_
      refine sP rfl rfl rfl (p_pick rfl rfl rfl) ?_
      refine sP rfl rfl rfl (pA rfl rfl) ?_
      refine lNil ?_
      exact ⟨_, [], _, ⟨_, (by exact hbv.symm), rfl, rfl⟩, ⟨rfl, rfl, trivial⟩, rfl⟩
    · refine wReg ?_
      refine sP rfl rfl rfl (p_fieldAddr_own rfl rfl fl55_0 ty53 (by decide)) ?_
      refine sP rfl rfl rfl (pLdO 0 rfl rfl rfl ty53 (ctx_le hv) (ctx_V hv)) ?_
      refine sP rfl rfl rfl (pLdW 1 rfl rfl rfl ty23 rfl) ?_
      refine sP rfl rfl rfl (p_call rfl (vhas_is hv e1) ⟨Sub.refl, Sub.refl, trivial⟩) ?_
      refine sP rfl rfl rfl (pM rfl rfl) ?_
      refine sG rfl rfl rfl rfl rfl (pLdW 1 rfl rfl rfl ty23 rfl) ?_
      refine sG rfl rfl rfl rfl rfl (p_call rfl (dcheck_p d) ⟨Sub.refl, trivial⟩) ?_
      refine sG rfl rfl rfl rfl rfl (p_icmp rfl rfl rfl (eql0_t e2)) ?_
      refine sG rfl rfl rfl rfl rfl (pM rfl rfl) ?_
      refine sG rfl rfl rfl rfl rfl (p_fieldAddr_own rfl rfl fl55_1 ty27 (by decide)) ?_
      refine sG rfl rfl rfl rfl rfl (pLdO1 0 rfl rfl rfl ty27 (ctx_C hv)) ?_
      refine sG rfl rfl rfl rfl rfl (pLdW 1 rfl rfl rfl ty23 rfl) ?_
      refine sG rfl rfl rfl rfl rfl (p_call rfl (dcontains_is hn (decide_eq_true e3)) ⟨Sub.refl, Sub.refl, trivial⟩) ?_
      refine sG rfl rfl rfl rfl rfl (p_pick rfl rfl rfl) ?_
      refine sP rfl rfl rfl (p_pick rfl rfl rfl) ?_
      refine sP rfl rfl rfl (pA rfl rfl) ?_
      refine lNil ?_
      exact ⟨_, [], _, ⟨_, (by exact hbv.symm), rfl, rfl⟩, ⟨rfl, rfl, trivial⟩, rfl⟩
    · refine wReg ?_
      refine sP rfl rfl rfl (p_fieldAddr_own rfl rfl fl55_0 ty53 (by decide)) ?_
      refine sP rfl rfl rfl (pLdO 0 rfl rfl rfl ty53 (ctx_le hv) (ctx_V hv)) ?_
      refine sP rfl rfl rfl (pLdW 1 rfl rfl rfl ty23 rfl) ?_
      refine sP rfl rfl rfl (p_call rfl (vhas_is hv e1) ⟨Sub.refl, Sub.refl, trivial⟩) ?_
      refine sP rfl rfl rfl (pM rfl rfl) ?_
      refine sG rfl rfl rfl rfl rfl (pLdW 1 rfl rfl rfl ty23 rfl) ?_
      refine sG rfl rfl rfl rfl rfl (p_call rfl (dcheck_p d) ⟨Sub.refl, trivial⟩) ?_
      refine sG rfl rfl rfl rfl rfl (p_icmp rfl rfl rfl (eql0_t e2)) ?_
      refine sG rfl rfl rfl rfl rfl (pM rfl rfl) ?_
      refine sG rfl rfl rfl rfl rfl (p_fieldAddr_own rfl rfl fl55_1 ty27 (by decide)) ?_
      refine sG rfl rfl rfl rfl rfl (pLdO1 0 rfl rfl rfl ty27 (ctx_C hv)) ?_
      refine sG rfl rfl rfl rfl rfl (pLdW 1 rfl rfl rfl ty23 rfl) ?_
      refine sG rfl rfl rfl rfl rfl (p_call rfl (dcontains_is hn (decide_eq_false e3)) ⟨Sub.refl, Sub.refl, trivial⟩) ?_
      refine sG rfl rfl rfl rfl rfl (p_pick rfl rfl rfl) ?_
      refine sP rfl rfl rfl (p_pick rfl rfl rfl) ?_
      refine sP rfl rfl rfl (pA rfl rfl) ?_
      refine lNil ?_
      exact ⟨_, [], _, ⟨_, (by exact hbv.symm), rfl, rfl⟩, ⟨rfl, rfl, trivial⟩, rfl⟩
  · rintro L h ⟨b, hb, rfl, rfl⟩
    refine wRet ?_
    exact rgs1 (rg_tmp (gives_sub (Sub.of_eq (avB hb))))
set_option maxRecDepth 100000 in
theorem cequal_p (y z : CtxT) (ha : y.1.length = 16) (hb : z.1.length = 16) (ha2 : y.2.length < 1000000) (hb2 : z.2.length < 1000000) : PFn Try.prog False 120 [ctA y, ctA z] (bA (decide (y = z))) := by
  refine pfn Try.func120 rfl (by kernel_rfl) 17 rfl _ rfl (Nat.le_of_ble_eq_true rfl) (fun X w0 => ?_)
  refine wSeq ?_
  refine wReg ?_
  refine sBox rfl rfl rfl rfl rfl (fun g2 => ?_)
  refine sBox rfl rfl rfl rfl rfl (fun g3 => ?_)
  refine sP rfl rfl rfl (pA rfl rfl) ?_
  refine lNil ?_
  refine wCut (fun L h => ∃ b : Bool, b = (decide (y = z)) ∧ L = [(2, .x (.pointer (some ⟨g2, 0, none⟩))), (4, bA b)] ∧ h = []) ?_ ?_
  · rcases eqC_cases y z with ⟨e1, hbv⟩ | ⟨e1, e2, hbv⟩ | ⟨e1, e2, hbv⟩
    · refine wReg ?_
      refine sP rfl rfl rfl (p_fieldAddr_own rfl rfl fl55_0 ty53 (by decide)) ?_
      refine sP rfl rfl rfl (pLdO 0 rfl rfl rfl ty53 (ctx_le ha) (ctx_V ha)) ?_
      refine sP rfl rfl rfl (p_fieldAddr_own rfl rfl fl55_0 ty53 (by decide)) ?_
      refine sP rfl rfl rfl (pLdO 1 rfl rfl rfl ty53 (ctx_le hb) (ctx_V hb)) ?_
      refine sP rfl rfl rfl (p_eqs (r := false) rfl rfl rfl (exL_ints _) (exL_ints _) guardV (fun w => eqV_f ha hb e1)) ?_
      refine sP rfl rfl rfl (pM rfl rfl) ?_
      refine sUx rfl rfl rfl (by decide) rfl rfl ?_
      refine sUx rfl rfl rfl (by decide) rfl rfl ?_
      refine sUx rfl rfl rfl (by decide) rfl rfl ?_
      refine sUx rfl rfl rfl (by decide) rfl rfl ?_
      refine sUx rfl rfl rfl (by decide) rfl rfl ?_
      refine sP rfl rfl rfl (p_pick rfl rfl rfl) ?_
      refine sP rfl rfl rfl (pA rfl rfl) ?_
      refine lNil ?_
      exact ⟨_, [], _, ⟨_, (by exact hbv.symm), rfl, rfl⟩, ⟨rfl, rfl, trivial⟩, rfl⟩
    · refine wReg ?_
      refine sP rfl rfl rfl (p_fieldAddr_own rfl rfl fl55_0 ty53 (by decide)) ?_
      refine sP rfl rfl rfl (pLdO 0 rfl rfl rfl ty53 (ctx_le ha) (ctx_V ha)) ?_
      refine sP rfl rfl rfl (p_fieldAddr_own rfl rfl fl55_0 ty53 (by decide)) ?_
      refine sP rfl rfl rfl (pLdO 1 rfl rfl rfl ty53 (ctx_le hb) (ctx_V hb)) ?_
      refine sP rfl rfl rfl (p_eqs (r := true) rfl rfl rfl (exL_ints _) (exL_ints _) guardV (fun w => eqV_t ha hb e1)) ?_
      refine sP rfl rfl rfl (pM rfl rfl) ?_
      refine sG rfl rfl rfl rfl rfl (p_fieldAddr_own rfl rfl fl55_1 ty27 (by decide)) ?_
      refine sG rfl rfl rfl rfl rfl (pLdO1 0 rfl rfl rfl ty27 (ctx_C ha)) ?_
      refine sG rfl rfl rfl rfl rfl (p_fieldAddr_own rfl rfl fl55_1 ty27 (by decide)) ?_
      refine sG rfl rfl rfl rfl rfl (pLdO1 1 rfl rfl rfl ty27 (ctx_C hb)) ?_
      refine sG rfl rfl rfl rfl rfl (p_call rfl (dequal_is ha2 hb2 (decide_eq_false e2)) ⟨Sub.refl, Sub.refl, trivial⟩) ?_
      refine sP rfl rfl rfl (p_pick rfl rfl rfl) ?_
      refine sP rfl rfl rfl (pA rfl rfl) ?_
      refine lNil ?_
      exact ⟨_, [], _, ⟨_, (by exact hbv.symm), rfl, rfl⟩, ⟨rfl, rfl, trivial⟩, rfl⟩
    · refine wReg ?_
      refine sP rfl rfl rfl (p_fieldAddr_own rfl rfl fl55_0 ty53 (by decide)) ?_
      refine sP rfl rfl rfl (pLdO 0 rfl rfl rfl ty53 (ctx_le ha) (ctx_V ha)) ?_
      refine sP rfl rfl rfl (p_fieldAddr_own rfl rfl fl55_0 ty53 (by decide)) ?_
      refine sP rfl rfl rfl (pLdO 1 rfl rfl rfl ty53 (ctx_le hb) (ctx_V hb)) ?_
      refine sP rfl rfl rfl (p_eqs (r := true) rfl rfl rfl (exL_ints _) (exL_ints _) guardV (fun w => eqV_t ha hb e1)) ?_
      refine sP rfl rfl rfl (pM rfl rfl) ?_
      refine sG rfl rfl rfl rfl rfl (p_fieldAddr_own rfl rfl fl55_1 ty27 (by decide)) ?_
      refine sG rfl rfl rfl rfl rfl (pLdO1 0 rfl rfl rfl ty27 (ctx_C ha)) ?_
      refine sG rfl rfl rfl rfl rfl (p_fieldAddr_own rfl rfl fl55_1 ty27 (by decide)) ?_
      refine sG rfl rfl rfl rfl rfl (pLdO1 1 rfl rfl rfl ty27 (ctx_C hb)) ?_
      refine sG rfl rfl rfl rfl rfl (p_call rfl (dequal_is ha2 hb2 (decide_eq_true e2)) ⟨Sub.refl, Sub.refl, trivial⟩) ?_
      refine sP rfl rfl rfl (p_pick rfl rfl rfl) ?_
      refine sP rfl rfl rfl (pA rfl rfl) ?_
      refine lNil ?_
      exact ⟨_, [], _, ⟨_, (by exact hbv.symm), rfl, rfl⟩, ⟨rfl, rfl, trivial⟩, rfl⟩
  · rintro L h ⟨bb, hbb, rfl, rfl⟩
    refine wRet ?_
    exact rgs1 (rg_tmp (gives_sub (Sub.of_eq (avB hbb))))

def clV (v : List Int) (i : Nat) : List Int := (v.map clampI).take i ++ List.replicate (16 - i) 0
theorem clV_len {v : List Int} (hv : v.length = 16) {i : Nat} (h : i ≤ 16) : (clV v i).length = 16 := by unfold clV; rw [List.length_append, List.length_take, List.length_map, List.length_replicate]; omega
theorem clV_set {v : List Int} (hv : v.length = 16) {i : Nat} {x : Int} (h : i < 16) (hx : v[i]? = some x) : (clV v i).set i (clampI x) = clV v (i + 1) := by
  unfold clV
  have hl : ((v.map clampI).take i).length = i := by rw [List.length_take, List.length_map]; omega
  have hz : i < (v.map clampI).length := by rw [List.length_map]; omega
  rw [List.set_append_right _ _ (by omega), hl, Nat.sub_self, show 16 - i = (16 - (i + 1)) + 1 by omega, List.replicate_succ, List.set_cons_zero, ← List.take_append_getElem hz, List.append_assoc, List.getElem_map, (List.getElem?_eq_some_iff.1 hx).2]; rfl
theorem clV_all {v : List Int} (hv : v.length = 16) : clV v 16 = v.map clampI := by unfold clV; rw [List.take_of_length_le (by rw [List.length_map]; omega), Nat.sub_self, List.replicate_zero, List.append_nil]
def clTo (c : CtxT) (i : Nat) : CtxT := ((sortK ltD c.2).take i).foldl clStep (c.1.map clampI, [])
theorem clTo_next {c : CtxT} {i : Nat} {d : Int × Int} (h : (sortK ltD c.2)[i]? = some d) : clTo c (i + 1) = clStep (clTo c i) d := by
  obtain ⟨hi, rfl⟩ := List.getElem?_eq_some_iff.1 h
  unfold clTo
  rw [← List.take_append_getElem hi, List.foldl_append]; rfl
theorem clTo_all (c : CtxT) : clTo c (sortK ltD c.2).length = cleanF c := by unfold clTo cleanF; rw [List.take_length]
theorem clStep_skip {o : CtxT} {d : Int × Int} (h : chk d ≠ 0 ∨ vhas o.1 d = true) : clStep o d = o := if_pos h
theorem clStep_inc {o : CtxT} {d : Int × Int} (h : ¬ (chk d ≠ 0 ∨ vhas o.1 d = true)) (h2 : d.2 = vget o.1 d.1 + 1) : clStep o d = (o.1.set d.1.toNat (vget o.1 d.1 + 1), o.2) := by unfold clStep; rw [if_neg h, if_pos h2]
theorem clStep_app {o : CtxT} {d : Int × Int} (h : ¬ (chk d ≠ 0 ∨ vhas o.1 d = true)) (h2 : ¬ d.2 = vget o.1 d.1 + 1) : clStep o d = (o.1, o.2 ++ [d]) := by unfold clStep; rw [if_neg h, if_neg h2]
theorem clStep_len (o : CtxT) (d : Int × Int) : (clStep o d).2.length ≤ o.2.length + 1 := by
  unfold clStep
  split
  · exact Nat.le_succ _
  · split
    · exact Nat.le_succ _
    · rw [List.length_append]; exact Nat.le_refl _
theorem clTo_len (c : CtxT) : ∀ i, (clTo c i).2.length ≤ i
  | 0 => by unfold clTo; simp
  | i + 1 => by
    rcases Nat.lt_or_ge i (sortK ltD c.2).length with h | h
    · rw [clTo_next (List.getElem?_eq_getElem h)]
      have := clTo_len c i
      have := clStep_len (clTo c i) (sortK ltD c.2)[i]
      omega
    · have e : clTo c (i + 1) = clTo c i := by unfold clTo; rw [List.take_of_length_le (by omega), List.take_of_length_le h]
      rw [e]; have := clTo_len c i; omega
theorem clean_len (c : CtxT) : (cleanF c).2.length ≤ c.2.length := by
  rw [← clTo_all]
  exact Nat.le_trans (clTo_len c _) (sortK_length_le _)
def skipD (o : CtxT) (d : Int × Int) : Bool := decide (chk d ≠ 0) || vhas o.1 d
theorem skip_cases (o : CtxT) (d : Int × Int) : (chk d ≠ 0 ∧ skipD o d = true) ∨ (chk d = 0 ∧ vhas o.1 d = true ∧ skipD o d = true) ∨ (chk d = 0 ∧ vhas o.1 d = false ∧ skipD o d = false) := by
  unfold skipD
  by_cases h1 : chk d = 0
  · cases h : vhas o.1 d with
    | true => exact .inr (.inl ⟨h1, rfl, by simp⟩)
    | false => exact .inr (.inr ⟨h1, rfl, by simp [h1]⟩)
  · exact .inl ⟨h1, by rw [decide_eq_true h1]; rfl⟩
theorem skip_yes {o : CtxT} {d : Int × Int} (h : skipD o d = true) : chk d ≠ 0 ∨ vhas o.1 d = true := by unfold skipD at h; simpa using h
theorem skip_no {o : CtxT} {d : Int × Int} (h : skipD o d = false) : chk d = 0 ∧ ¬ (chk d ≠ 0 ∨ vhas o.1 d = true) := by
  unfold skipD at h
  rw [Bool.or_eq_false_iff, decide_eq_false_iff_not] at h
  have h1 : chk d = 0 := Decidable.byContradiction h.1
  exact ⟨h1, fun g => g.elim (fun g => g h1) fun g => by rw [h.2] at g; cases g⟩
theorem sFreezeE {P : Program} {C : Cx} {Q : Exit → AS → Prop} {f : Nat → AV} {h : List HObj} {ops : Array Oper} {rest : List Oper} (i t j : Nat) {v : Value} {e : TypeId} {k n : Nat} {cs ys zs : List AV} (hi : h[i]? = some (.row v e k n cs)) (ht : f t = .agg ys) (hj : ys[j]? = some (.x v)) (hz : ys.set j (.sl k n cs) = zs) (kk : WL none P C ops Q rest ⟨upd f t (.agg zs), h.set i .dead⟩) : WL none P C ops Q rest ⟨f, h⟩ := sFreezeA i t j hi ht hj (by rw [hz]; exact kk)

set_option maxHeartbeats 1000000 in
set_option maxRecDepth 100000 in
theorem cclean_p (c : CtxT) (hv : c.1.length = 16) (hn : c.2.length < 1000000) : PFn Try.prog False 50 [ctA c] (ctA (cleanF c)) := by
  refine pfn Try.func50 rfl (by kernel_rfl) 65 rfl _ rfl (Nat.le_of_ble_eq_true rfl) (fun X w0 => ?_)
  refine wSeq ?_
  refine wReg ?_
  refine sBox rfl rfl rfl rfl rfl (fun g1 => ?_)
  refine sAlloc rfl rfl rfl rfl ze55 (fun g2 => ?_)
  refine lNil ?_
  refine wSeq ?_
  refine wReg ?_
  refine sAlloc rfl rfl rfl rfl ze55 (fun g3 => ?_)
  refine lNil ?_
  refine wSeq ?_
  refine wSeq ?_
  refine wReg ?_
  refine sP rfl rfl rfl (p_fieldAddr_own rfl rfl fl55_0 ty53 (by decide)) ?_
  refine sP rfl rfl rfl (pLdO 0 rfl rfl rfl ty53 (ctx_le hv) (ctx_V hv)) ?_
  refine sP rfl rfl rfl (pM rfl rfl) ?_
  refine lNil ?_
  refine wBlock ?_
  refine wLoop (fun mm L h => ∃ i, mm = 16 - i ∧ i ≤ 16 ∧ L = [(1, .x (.pointer (some ⟨g1, 0, none⟩))), (2, .x (.pointer (some ⟨g2, 0, none⟩))), (3, .x (.pointer (some ⟨g3, 0, none⟩))), (9, vA c.1), (10, iA (i : Nat))] ∧ h = [.cells g1 55 (encCt c), .cells g2 55 (iL zeroV ++ [.x (.slice none 0 0)]), .cells g3 55 (iL (clV c.1 i) ++ [.x (.slice none 0 0)])]) ⟨_, _, [.cells g1 55 (encCt c), .cells g2 55 (iL zeroV ++ [.x (.slice none 0 0)]), .cells g3 55 (iL (clV c.1 0) ++ [.x (.slice none 0 0)])], _, ⟨0, rfl, Nat.zero_le _, rfl, rfl⟩, ⟨rfl, rfl, rfl, rfl, rfl, trivial⟩, rfl⟩ ?_
  rintro mm L h ⟨i, rfl, hi, rfl, rfl⟩
  refine wSeq ?_
  refine wReg ?_
  refine sP rfl rfl rfl (p_icmp rfl rfl rfl rfl) ?_
  refine lNil ?_
  refine wSeq ?_
  refine wCond rfl (fun hc1 => ?_) (fun hc1 => ?_)
  · have hi16 : i < 16 := by have h := hc1; simp at h; omega
    obtain ⟨x, hx⟩ : ∃ x, c.1[i]? = some x := getL (by omega)
    refine wSkip ?_
    refine wSeq ?_
    refine wBlock ?_
    refine wSeq ?_
    refine wReg ?_
    refine sP rfl rfl rfl (pM rfl rfl) ?_
    refine sP rfl rfl rfl (p_index_arr rfl rfl Try.underlying53 ty3 rfl (i := i) rfl hi16 (.inr ⟨rfl, iL_at hx⟩)) ?_
    refine sP rfl rfl rfl (pA rfl rfl) ?_
    refine sP rfl rfl rfl (pA rfl rfl) ?_
    refine lNil ?_
    refine wReg ?_
    refine sP rfl rfl rfl (pM rfl rfl) ?_
    refine sP rfl rfl rfl (pM rfl rfl) ?_
    refine sP rfl rfl rfl (p_min rfl rfl rfl) ?_
    refine sP rfl rfl rfl (p_max rfl rfl rfl) ?_
    refine sP rfl rfl rfl (p_fieldAddr_own rfl rfl fl55_0 ty53 (by decide)) ?_
    refine sP rfl rfl rfl (p_indexAddr_arr rfl rfl Try.underlying53 ty3 rfl (i := i) rfl hi16) ?_
    refine sStore1 2 rfl rfl rfl rfl rfl ty3 rfl rfl (by rw [ctx_len (clV_len hv hi)]; omega) ?_
    refine lNil ?_
    refine wReg ?_
    refine sP rfl rfl rfl (p_iar rfl rfl rfl rfl) ?_
    refine sP rfl rfl rfl (pM rfl rfl) ?_
    refine lNil ?_
    refine ⟨_, _, [.cells g1 55 (encCt c), .cells g2 55 (iL zeroV ++ [.x (.slice none 0 0)]), .cells g3 55 (iL (clV c.1 (i + 1)) ++ [.x (.slice none 0 0)])], [], ?_, ⟨i + 1, rfl, hi16, rfl, rfl⟩, ⟨rfl, rfl, rfl, rfl, avI (wrapI (by omega) (by omega)), trivial⟩, ?_⟩
    · omega
    · show [_, _, HObj.cells g3 _ ((iL (clV c.1 i) ++ _).set (0 + i * 1) (iA (clampI x)))] = _
      rw [ctx_set (by rw [clV_len hv hi]; exact hi16), clV_set hv hi16 hx]
      rfl
  · have hge : i = 16 := by have h := hc1; simp at h; omega
    subst hge
    refine wExit ?_
    refine wNilrow 23 2 ?_
    refine wSeq ?_
    refine wSeq ?_
    refine wReg ?_
    refine sP rfl rfl rfl (p_fieldAddr_own rfl rfl fl55_1 ty27 (by decide)) ?_
    refine sP rfl rfl rfl (pLdO1 0 rfl rfl rfl ty27 (ctx_C hv)) ?_
    refine sP rfl rfl rfl (p_call rfl (dsort_p c.2 hn) ⟨Sub.refl, trivial⟩) ?_
    refine sP rfl rfl rfl (p_len_sl rfl rfl Try.underlying27) ?_
    refine sP rfl rfl rfl (pM rfl rfl) ?_
    refine lNil ?_
    refine wBlock ?_
    refine wLoop (fun mm L h => ∃ i v, mm = (sortK ltD c.2).length - i ∧ i ≤ (sortK ltD c.2).length ∧ L = [(2, .x (.pointer (some ⟨g2, 0, none⟩))), (3, .x (.pointer (some ⟨g3, 0, none⟩))), (23, slD (sortK ltD c.2)), (24, iA (sortK ltD c.2).length), (25, iA (i : Nat))] ∧ h = [.cells g1 55 (encCt c), .cells g2 55 (iL zeroV ++ [.x (.slice none 0 0)]), .cells g3 55 (iL (clTo c i).1 ++ [.x v]), .row v 23 2 (clTo c i).2.length ((clTo c i).2.flatMap encA)]) ⟨_, _, [.cells g1 55 (encCt c), .cells g2 55 (iL zeroV ++ [.x (.slice none 0 0)]), .cells g3 55 (iL (clV c.1 16) ++ [.x (.slice none 0 0)]), .row (.slice none 0 0) 23 2 0 []], _, ⟨0, .slice none 0 0, rfl, Nat.zero_le _, rfl, by rw [clV_all hv]; rfl⟩, ⟨rfl, rfl, rfl, rfl, rfl, trivial⟩, rfl⟩ ?_
    rintro mm L h ⟨i, v, rfl, hi, rfl, rfl⟩
    refine wSeq ?_
    refine wReg ?_
    refine sP rfl rfl rfl (p_icmp rfl rfl rfl rfl) ?_
    refine lNil ?_
    refine wSeq ?_
    refine wCond rfl (fun hc2 => ?_) (fun hc2 => ?_)
    · have hlt : i < (sortK ltD c.2).length := by simpa using hc2
      obtain ⟨d, hd⟩ := getL hlt
      have hcl : ClInv c _ (clTo c i) := clInv_take (c := c) hv i hi
      have hol : (clTo c i).1.length = 16 := hcl.cl.len
      have hln : (sortK ltD c.2).length ≤ c.2.length := sortK_length_le _
      refine wSkip ?_
      refine wSeq ?_
      refine wBlock ?_
      refine wSeq ?_
      refine wReg ?_
      refine sP rfl rfl rfl (pIdx i rfl rfl Try.underlying27 ty23 (by decide) rfl (fun _ => rfl) rfl rfl hd) ?_
      refine sP rfl rfl rfl (pLdE rfl rfl ty23 rfl) ?_
      refine sAlloc rfl rfl rfl rfl ze23 (fun g7 => ?_)
      refine sStore 4 rfl rfl rfl rfl rfl ty23 rfl rfl rfl (Nat.le_of_ble_eq_true rfl) ?_
      refine lNil ?_
      refine wBlock ?_
      refine wCut (fun L h => ∃ b : Bool, b = (skipD (clTo c i) d) ∧ L = [(2, .x (.pointer (some ⟨g2, 0, none⟩))), (3, .x (.pointer (some ⟨g3, 0, none⟩))), (7, .x (.pointer (some ⟨g7, 0, none⟩))), (23, slD (sortK ltD c.2)), (24, iA (sortK ltD c.2).length), (25, iA (i : Nat)), (35, bA b)] ∧ h = [.cells g1 55 (encCt c), .cells g2 55 (iL zeroV ++ [.x (.slice none 0 0)]), .cells g3 55 (iL (clTo c i).1 ++ [.x v]), .row v 23 2 (clTo c i).2.length ((clTo c i).2.flatMap encA), .cells g7 23 (encA d)]) ?_ ?_
      · rcases skip_cases (clTo c i) d with ⟨e1, hbv⟩ | ⟨e1, e2, hbv⟩ | ⟨e1, e2, hbv⟩
        · refine wReg ?_
          refine sP rfl rfl rfl (pLdW 4 rfl rfl rfl ty23 rfl) ?_
          refine sP rfl rfl rfl (p_call rfl (dcheck_p d) ⟨Sub.refl, trivial⟩) ?_
          refine sP rfl rfl rfl (p_icmp rfl rfl rfl (neq_t e1)) ?_
          refine sP rfl rfl rfl (pM rfl rfl) ?_
          refine sUx rfl rfl rfl (by decide) rfl rfl ?_
          refine sUx rfl rfl rfl (by decide) rfl rfl ?_
          refine sUx rfl rfl rfl (by decide) rfl rfl ?_
          refine sUx rfl rfl rfl (by decide) rfl rfl ?_
          refine sP rfl rfl rfl (p_pick rfl rfl rfl) ?_
          refine sP rfl rfl rfl (pA rfl rfl) ?_
          refine lNil ?_
          exact ⟨_, [.cells g1 55 (encCt c), .cells g2 55 (iL zeroV ++ [.x (.slice none 0 0)]), .cells g3 55 (iL (clTo c i).1 ++ [.x v]), .row v 23 2 (clTo c i).2.length ((clTo c i).2.flatMap encA), .cells g7 23 (encA d)], _, ⟨_, (by exact hbv.symm), rfl, rfl⟩, ⟨rfl, rfl, rfl, rfl, rfl, rfl, rfl, trivial⟩, rfl⟩
        · refine wReg ?_
          refine sP rfl rfl rfl (pLdW 4 rfl rfl rfl ty23 rfl) ?_
          refine sP rfl rfl rfl (p_call rfl (dcheck_p d) ⟨Sub.refl, trivial⟩) ?_
          refine sP rfl rfl rfl (p_icmp rfl rfl rfl (neq_f e1)) ?_
          refine sP rfl rfl rfl (pM rfl rfl) ?_
          refine sG rfl rfl rfl rfl rfl (p_fieldAddr_own rfl rfl fl55_0 ty53 (by decide)) ?_
          refine sG rfl rfl rfl rfl rfl (pLdO 2 rfl rfl rfl ty53 (ctx_le hol) (ctx_V hol)) ?_
          refine sG rfl rfl rfl rfl rfl (pLdW 4 rfl rfl rfl ty23 rfl) ?_
          refine sG rfl rfl rfl rfl rfl (p_call rfl (vhas_is hol e2) ⟨Sub.refl, Sub.refl, trivial⟩) ?_
          refine sP rfl rfl rfl (p_pick rfl rfl rfl) ?_
          refine sP rfl rfl rfl (pA rfl rfl) ?_
          refine lNil ?_
          exact ⟨_, [.cells g1 55 (encCt c), .cells g2 55 (iL zeroV ++ [.x (.slice none 0 0)]), .cells g3 55 (iL (clTo c i).1 ++ [.x v]), .row v 23 2 (clTo c i).2.length ((clTo c i).2.flatMap encA), .cells g7 23 (encA d)], _, ⟨_, (by exact hbv.symm), rfl, rfl⟩, ⟨rfl, rfl, rfl, rfl, rfl, rfl, rfl, trivial⟩, rfl⟩
        · refine wReg ?_
          refine sP rfl rfl rfl (pLdW 4 rfl rfl rfl ty23 rfl) ?_
          refine sP rfl rfl rfl (p_call rfl (dcheck_p d) ⟨Sub.refl, trivial⟩) ?_
          refine sP rfl rfl rfl (p_icmp rfl rfl rfl (neq_f e1)) ?_
          refine sP rfl rfl rfl (pM rfl rfl) ?_
          refine sG rfl rfl rfl rfl rfl (p_fieldAddr_own rfl rfl fl55_0 ty53 (by decide)) ?_
          refine sG rfl rfl rfl rfl rfl (pLdO 2 rfl rfl rfl ty53 (ctx_le hol) (ctx_V hol)) ?_
          refine sG rfl rfl rfl rfl rfl (pLdW 4 rfl rfl rfl ty23 rfl) ?_
          refine sG rfl rfl rfl rfl rfl (p_call rfl (vhas_is hol e2) ⟨Sub.refl, Sub.refl, trivial⟩) ?_
          refine sP rfl rfl rfl (p_pick rfl rfl rfl) ?_
          refine sP rfl rfl rfl (pA rfl rfl) ?_
          refine lNil ?_
          exact ⟨_, [.cells g1 55 (encCt c), .cells g2 55 (iL zeroV ++ [.x (.slice none 0 0)]), .cells g3 55 (iL (clTo c i).1 ++ [.x v]), .row v 23 2 (clTo c i).2.length ((clTo c i).2.flatMap encA), .cells g7 23 (encA d)], _, ⟨_, (by exact hbv.symm), rfl, rfl⟩, ⟨rfl, rfl, rfl, rfl, rfl, rfl, rfl, trivial⟩, rfl⟩
      · rintro L h ⟨b, hb, rfl, rfl⟩
        refine wCond rfl (fun hc3 => ?_) (fun hc3 => ?_)
        · refine wSkip ?_
          refine wReg ?_
          refine sP rfl rfl rfl (p_iar rfl rfl rfl rfl) ?_
          refine sP rfl rfl rfl (pM rfl rfl) ?_
          refine lNil ?_
          have hst : clTo c (i + 1) = clTo c i := by rw [clTo_next hd, clStep_skip (skip_yes (hb.symm.trans hc3))]
          refine ⟨_, _, [.cells g1 55 (encCt c), .cells g2 55 (iL zeroV ++ [.x (.slice none 0 0)]), .cells g3 55 (iL (clTo c (i + 1)).1 ++ [.x v]), .row v 23 2 (clTo c (i + 1)).2.length ((clTo c (i + 1)).2.flatMap encA)], [.cells g7 23 (encA d)], ?_, ⟨i + 1, v, rfl, hlt, rfl, rfl⟩, ⟨rfl, rfl, rfl, rfl, avI (wrapI (by omega) (by omega)), trivial⟩, ?_⟩
          · omega
          · rw [hst]; rfl
        · obtain ⟨hck, hsk⟩ := skip_no (hb.symm.trans hc3)
          obtain ⟨hr0, hr1, _, _⟩ := (chk_iff d).1 hck
          have hrv : 0 ≤ vget (clTo c i).1 d.1 ∧ vget (clTo c i).1 d.1 ≤ 1099511627776 := hcl.cl.at_ d.1
          refine wSeq ?_
          refine wDraw 10 (by kernel_rfl) (by kernel_rfl) ?_
          refine sP rfl rfl rfl (p_fieldAddr_own rfl rfl fl23_1 ty3 (by decide)) ?_
          refine sP rfl rfl rfl (pLdO1 4 rfl rfl rfl ty3 rfl) ?_
          refine sP rfl rfl rfl (p_fieldAddr_own rfl rfl fl23_0 ty3 (by decide)) ?_
          refine sP rfl rfl rfl (pLdO1 4 rfl rfl rfl ty3 rfl) ?_
          refine sP rfl rfl rfl (p_fieldAddr_own rfl rfl fl55_0 ty53 (by decide)) ?_
          refine sP rfl rfl rfl (p_indexAddr_arr rfl rfl Try.underlying53 ty3 rfl (i := d.1.toNat) (by omega) (by omega)) ?_
          refine sP rfl rfl rfl (pLdO1 2 rfl rfl rfl ty3 (ctx_at (vget_at hol hr0 hr1))) ?_
          refine sP rfl rfl rfl (p_iar rfl rfl rfl (by show some _ = some _; rw [wrapI (by omega) (by omega)])) ?_
          refine sP rfl rfl rfl (p_icmp rfl rfl rfl rfl) ?_
          refine sP rfl rfl rfl (pA rfl rfl) ?_
          refine lTail ?_
          refine lNil ?_
          refine wCond rfl (fun hc4 => ?_) (fun hc4 => ?_)
          · refine wReg ?_
            refine sP rfl rfl rfl (p_fieldAddr_own rfl rfl fl23_0 ty3 (by decide)) ?_
            refine sP rfl rfl rfl (pLdO1 4 rfl rfl rfl ty3 rfl) ?_
            refine sP rfl rfl rfl (p_fieldAddr_own rfl rfl fl55_0 ty53 (by decide)) ?_
            refine sP rfl rfl rfl (p_indexAddr_arr rfl rfl Try.underlying53 ty3 rfl (i := d.1.toNat) (by omega) (by omega)) ?_
            refine sP rfl rfl rfl (pLdO1 2 rfl rfl rfl ty3 (ctx_at (vget_at hol hr0 hr1))) ?_
            refine sP rfl rfl rfl (p_iar rfl rfl rfl (by show some _ = some _; rw [wrapI (by omega) (by omega)])) ?_
            refine sP rfl rfl rfl (p_fieldAddr_own rfl rfl fl55_0 ty53 (by decide)) ?_
            refine sP rfl rfl rfl (p_indexAddr_arr rfl rfl Try.underlying53 ty3 rfl (i := d.1.toNat) (by omega) (by omega)) ?_
            refine sStore1 2 rfl rfl rfl rfl rfl ty3 rfl rfl (by rw [ctx_len hol]; omega) ?_
            refine lNil ?_
            refine wReg ?_
            refine sP rfl rfl rfl (p_iar rfl rfl rfl rfl) ?_
            refine sP rfl rfl rfl (pM rfl rfl) ?_
            refine lNil ?_
            have hst : clTo c (i + 1) = ((clTo c i).1.set d.1.toNat (vget (clTo c i).1 d.1 + 1), (clTo c i).2) := by rw [clTo_next hd, clStep_inc hsk (by simpa using hc4)]
            refine ⟨_, _, [.cells g1 55 (encCt c), .cells g2 55 (iL zeroV ++ [.x (.slice none 0 0)]), .cells g3 55 (iL (clTo c (i + 1)).1 ++ [.x v]), .row v 23 2 (clTo c (i + 1)).2.length ((clTo c (i + 1)).2.flatMap encA)], [.cells g7 23 (encA d)], ?_, ⟨i + 1, v, rfl, hlt, rfl, rfl⟩, ⟨rfl, rfl, rfl, rfl, avI (wrapI (by omega) (by omega)), trivial⟩, ?_⟩
            · omega
            · show [_, _, HObj.cells g3 _ ((iL (clTo c i).1 ++ _).set (0 + d.1.toNat * 1) (iA (vget (clTo c i).1 d.1 + 1))), _, _] = _
              rw [ctx_set (by omega), hst]
              rfl
          · refine wReg ?_
            refine sP rfl rfl rfl (p_fieldAddr_own rfl rfl fl55_1 ty27 (by decide)) ?_
            refine sP rfl rfl rfl (pLdO1 2 rfl rfl rfl ty27 (ctx_C hol)) ?_
            refine sP rfl rfl rfl (pLdW 4 rfl rfl rfl ty23 rfl) ?_
            refine sP rfl rfl rfl (p_buildSlice (res := [d].flatMap encA) rfl ze23 Try.underlying27 ty23 (by decide) (by decide) rfl rfl rfl) ?_
            refine sAppendL (enc := encA) (l := (clTo c i).2) 3 [d] rfl rfl rfl rfl Try.underlying27 ro23 rfl rfl rfl (fun _ => rfl) (by have := clTo_len c i; rw [List.length_singleton]; omega) (by have := clTo_len c i; rw [List.length_singleton]; omega) (fun v33 => ?_)
            refine sP rfl rfl rfl (p_fieldAddr_own rfl rfl fl55_1 ty27 (by decide)) ?_
            refine sStoreRow 2 3 rfl rfl rfl rfl rfl rfl ty27 rfl (by rw [ctx_len hol]; omega) ?_
            refine lNil ?_
            refine wReg ?_
            refine sP rfl rfl rfl (p_iar rfl rfl rfl rfl) ?_
            refine sP rfl rfl rfl (pM rfl rfl) ?_
            refine lNil ?_
            have hst : clTo c (i + 1) = ((clTo c i).1, (clTo c i).2 ++ [d]) := by rw [clTo_next hd, clStep_app hsk (by simpa using hc4)]
            refine ⟨_, _, [.cells g1 55 (encCt c), .cells g2 55 (iL zeroV ++ [.x (.slice none 0 0)]), .cells g3 55 (iL (clTo c (i + 1)).1 ++ [.x v33]), .row v33 23 2 (clTo c (i + 1)).2.length ((clTo c (i + 1)).2.flatMap encA)], [.cells g7 23 (encA d)], ?_, ⟨i + 1, v33, rfl, hlt, rfl, rfl⟩, ⟨rfl, rfl, rfl, rfl, avI (wrapI (by omega) (by omega)), trivial⟩, ?_⟩
            · omega
            · show [_, _, HObj.cells g3 _ ((iL (clTo c i).1 ++ _).set 16 (.x v33)), _, _] = _
              rw [ctx_setC hol, hst]
              rfl
    · have hge : i = (sortK ltD c.2).length := by
        have h : ¬ i < (sortK ltD c.2).length := by simpa using hc2
        omega
      subst hge
      have hcl : (cleanF c).1.length = 16 := (clean_F hv).len
      rw [clTo_all]
      refine wExit ?_
      refine wSeq ?_
      refine wReg ?_
      refine sP rfl rfl rfl (pLdW 2 rfl rfl rfl ty55 (ctx_len hcl)) ?_
      refine sFreezeE 3 64 16 rfl rfl (ctx_C hcl) (ctx_setC hcl) ?_
      refine sStore 1 rfl rfl rfl rfl rfl ty55 rfl (ctx_ones hcl) (ctx_len hcl) (Nat.le_of_ble_eq_true rfl) ?_
      refine lNil ?_
      refine wRet ?_
      have hsp : spl (iL zeroV ++ [.x (.slice none 0 0)]) 0 (iL (cleanF c).1 ++ [slD (cleanF c).2]) = encCt (cleanF c) := ctx_spl rfl (ctx_len hcl)
      exact rgs1 (rg_cell rfl (List.mem_of_getElem? (i := 1) rfl) ty55 (.inl ⟨rfl, by rw [hsp]; exact Nat.le_of_eq (ctx_len hcl).symm, rfl⟩) (gives_sub (Sub.of_eq (by rw [hsp]; exact congrArg AV.agg (List.take_of_length_le (l := encCt (cleanF c)) (Nat.le_of_eq (ctx_len hcl)))))))
end Go.Proofs.Ytmhkalalcmkpbaa

namespace Go.Proofs.Ytmhkalalcmkpbaa
open Go Go.RowKit
set_option linter.unusedVariables false
set_option linter.unusedSimpArgs false

theorem ctx_len' {c : CtxT} (h : c.1.length = 16) : (encCt c).length = 17 := ctx_len h
theorem ctx_ones' {c : CtxT} (h : c.1.length = 16) : AV.ones (encCt c) = true := ctx_ones h
theorem ctxE_1 {c : CtxT} (h : vE c.1 ≠ 0) : ctxE c = vE c.1 := if_pos h
theorem ctxE_2 {c : CtxT} (h : vE c.1 = 0) (h2 : c ≠ cleanF c) : ctxE c = 5 := by unfold ctxE; rw [if_neg (by simpa using h), if_neg (fun e => h2 e.symm)]
theorem ctxE_3 {c : CtxT} (h : vE c.1 = 0) (h2 : c = cleanF c) : ctxE c = 0 := by unfold ctxE; rw [if_neg (by simpa using h), if_pos h2.symm]
theorem cat_two (a b : List (Int × Int)) : [a, b].flatten = a ++ b := by simp
theorem two_len {a b : List (Int × Int)} (ha : a.length < 1000000) (hb : b.length < 1000000) : ∀ l ∈ [a, b], l.length < 1000000 := by
  intro l hl
  simp only [List.mem_cons, List.not_mem_nil, or_false] at hl
  rcases hl with rfl | rfl
  · exact ha
  · exact hb
theorem dconcat2_p (a b : List (Int × Int)) (ha : a.length < 1000000) (hb : b.length < 1000000) : PFn Try.prog False 98 [.sl 1 2 [slD a, slD b]] (slD (a ++ b)) := by
  have h := dconcat_p [a, b] (show 2 < 100 by decide) (two_len ha hb)
  rw [cat_two] at h
  exact h

set_option maxRecDepth 100000 in
theorem ccheck_p (c : CtxT) (hv : c.1.length = 16) (hn : c.2.length < 1000000) : PFn Try.prog False 52 [ctA c] (iA (ctxE c)) := by
  refine pfn Try.func52 rfl (by kernel_rfl) 15 rfl _ rfl (Nat.le_of_ble_eq_true rfl) (fun X w0 => ?_)
  refine wSeq ?_
  refine wReg ?_
  refine sBox rfl rfl rfl rfl rfl (fun g1 => ?_)
  refine sP rfl rfl rfl (pA rfl rfl) ?_
  refine lNil ?_
  refine wSeq ?_
  refine wSeq ?_
  refine wReg ?_
  refine sP rfl rfl rfl (p_fieldAddr_own rfl rfl fl55_0 ty53 (by decide)) ?_
  refine sP rfl rfl rfl (pLdO 0 rfl rfl rfl ty53 (ctx_le hv) (ctx_V hv)) ?_
  refine sP rfl rfl rfl (p_call rfl (vcheck_p c.1 hv) ⟨Sub.refl, trivial⟩) ?_
  refine sP rfl rfl rfl (pA rfl rfl) ?_
  refine lNil ?_
  refine wSeq ?_
  refine wReg ?_
  refine sP rfl rfl rfl (pM rfl rfl) ?_
  refine sP rfl rfl rfl (p_icmp rfl rfl rfl rfl) ?_
  refine lNil ?_
  refine wCond rfl (fun hc1 => ?_) (fun hc1 => ?_)
  · refine wSeq ?_
    refine wReg ?_
    refine sP rfl rfl rfl (pM rfl rfl) ?_
    refine sP rfl rfl rfl (pA rfl rfl) ?_
    refine lNil ?_
    refine wRet ?_
    have h : vE c.1 ≠ 0 := by simpa using hc1
    exact rgs1 (rg_tmp (gives_sub (Sub.of_eq (avI (ctxE_1 h).symm))))
  · have hz : vE c.1 = 0 := by simpa using hc1
    refine wSkip ?_
    refine wSeq ?_
    refine wSeq ?_
    refine wDraw 5 (by kernel_rfl) (by kernel_rfl) ?_
    refine sP rfl rfl rfl (pLdW 0 rfl rfl rfl ty55 (ctx_len hv)) ?_
    refine sP rfl rfl rfl (pLdW 0 rfl rfl rfl ty55 (ctx_len hv)) ?_
    refine sP rfl rfl rfl (p_call rfl (cclean_p c hv hn) ⟨Sub.refl, trivial⟩) ?_
    refine sP rfl rfl rfl (p_call rfl (cequal_p c (cleanF c) hv (clean_F hv).len hn (by have := clean_len c; omega)) ⟨Sub.refl, Sub.refl, trivial⟩) ?_
    refine sP rfl rfl rfl (p_not rfl rfl) ?_
    refine lTail ?_
    refine lNil ?_
    refine wCond rfl (fun hc2 => ?_) (fun hc2 => ?_)
    · refine wSeq ?_
      refine wReg ?_
      refine sP rfl rfl rfl (pA rfl rfl) ?_
      refine lNil ?_
      refine wRet ?_
      have h : c ≠ cleanF c := by simpa using hc2
      exact rgs1 (rg_tmp (gives_sub (Sub.of_eq (avI (ctxE_2 hz h).symm))))
    · refine wSkip ?_
      refine wSeq ?_
      refine wReg ?_
      refine sP rfl rfl rfl (pA rfl rfl) ?_
      refine lNil ?_
      refine wRet ?_
      have h : c = cleanF c := by simpa using hc2
      exact rgs1 (rg_tmp (gives_sub (Sub.of_eq (avI (ctxE_3 hz h).symm))))
set_option maxRecDepth 100000 in
theorem cadd_p (c : CtxT) (l : List (Int × Int)) (hv : c.1.length = 16) (hn : c.2.length < 500000) (hl : l.length < 500000) : PFn Try.prog False 39 [ctA c, slD l] (ctA (addF c l)) := by
  refine pfn Try.func39 rfl (by kernel_rfl) 14 rfl _ rfl (Nat.le_of_ble_eq_true rfl) (fun X w0 => ?_)
  refine wSeq ?_
  refine wReg ?_
  refine sBox rfl rfl rfl rfl rfl (fun g2 => ?_)
  refine sAlloc rfl rfl rfl rfl ze55 (fun g4 => ?_)
  refine lNil ?_
  refine wSeq ?_
  refine wDraw 9 (by kernel_rfl) (by kernel_rfl) ?_
  refine sP rfl rfl rfl (p_fieldAddr_own rfl rfl fl55_0 ty53 (by decide)) ?_
  refine sP rfl rfl rfl (pLdO 0 rfl rfl rfl ty53 (ctx_le hv) (ctx_V hv)) ?_
  refine sP rfl rfl rfl (p_fieldAddr_own rfl rfl fl55_1 ty27 (by decide)) ?_
  refine sP rfl rfl rfl (pLdO1 0 rfl rfl rfl ty27 (ctx_C hv)) ?_
  refine sP rfl rfl rfl (pMs rfl rfl) ?_
  refine sP rfl rfl rfl (p_buildSlice (res := [slD c.2, slD l]) rfl ze27 Try.underlying184 ty27 (by decide) (by decide) rfl rfl rfl) ?_
  refine sP rfl rfl rfl (p_call rfl (dconcat2_p c.2 l (by omega) (by omega)) ⟨Sub.refl, trivial⟩) ?_
  refine sP rfl rfl rfl (p_build (res := iL c.1 ++ [slD (c.2 ++ l)]) rfl ze55 pl55 rfl (ctx_fill hv)) ?_
  refine sP rfl rfl rfl (p_call rfl (cclean_p (c.1, c.2 ++ l) hv (by rw [List.length_append]; omega)) ⟨Sub.refl, trivial⟩) ?_
  refine lTail ?_
  refine sStore 1 rfl rfl rfl rfl rfl ty55 rfl (ctx_ones' (c := addF c l) (clean_add (c := c) hv l).len) (ctx_len' (c := addF c l) (clean_add (c := c) hv l).len) (Nat.le_of_ble_eq_true rfl) ?_
  refine lNil ?_
  refine wRet ?_
  have hcl := (clean_add (c := c) hv l).len
  have hsp : spl (iL zeroV ++ [.x (.slice none 0 0)]) 0 (encCt (addF c l)) = encCt (addF c l) := ctx_spl rfl (ctx_len' hcl)
  exact rgs1 (rg_cell rfl (List.mem_of_getElem? (i := 1) rfl) ty55 (.inl ⟨rfl, by show 17 ≤ (spl (iL zeroV ++ [.x (.slice none 0 0)]) 0 (encCt (addF c l))).length; rw [hsp]; exact Nat.le_of_eq (ctx_len' hcl).symm, rfl⟩) (gives_sub (Sub.of_eq (by show AV.agg ((spl (iL zeroV ++ [.x (.slice none 0 0)]) 0 (encCt (addF c l))).take 17) = _; rw [hsp]; exact congrArg AV.agg (List.take_of_length_le (Nat.le_of_eq (ctx_len' hcl)))))))
set_option maxRecDepth 100000 in
theorem cjoin_p (y z : CtxT) (ha : y.1.length = 16) (hb : z.1.length = 16) (ha2 : y.2.length < 500000) (hb2 : z.2.length < 500000) : PFn Try.prog False 55 [ctA y, ctA z] (ctA (joinF y z)) := by
  refine pfn Try.func55 rfl (by kernel_rfl) 22 rfl _ rfl (Nat.le_of_ble_eq_true rfl) (fun X w0 => ?_)
  have hca := (clean_F ha).len
  have hcb := (clean_F hb).len
  have hla := clean_len y
  have hlb := clean_len z
  refine wSeq ?_
  refine wReg ?_
  refine sBox rfl rfl rfl rfl rfl (fun g2 => ?_)
  refine sBox rfl rfl rfl rfl rfl (fun g3 => ?_)
  refine sAlloc rfl rfl rfl rfl ze55 (fun g4 => ?_)
  refine lNil ?_
  refine wSeq ?_
  refine wDrawM 4 (by kernel_rfl) (by kernel_rfl) (fun _ => [.cells g2 55 (encCt y), .cells g3 55 (encCt z), .cells g4 55 (iL zeroV ++ [.x (.slice none 0 0)])]) [] (by kernel_rfl) rfl (fun m _ => rfl) ?_
  refine dwP rfl rfl rfl rfl rfl (fun k al => (pLdW 0 rfl rfl rfl ty55 (ctx_len ha))) ?_
  refine dwP rfl rfl rfl rfl rfl (fun k al => (p_call rfl (cclean_p y ha (by omega)) ⟨Sub.refl, trivial⟩)) ?_
  refine dwP rfl rfl rfl rfl rfl (fun k al => (pLdW 1 rfl rfl rfl ty55 (ctx_len hb))) ?_
  refine dwP rfl rfl rfl rfl rfl (fun k al => (p_call rfl (cclean_p z hb (by omega)) ⟨Sub.refl, trivial⟩)) ?_
  refine dwNil ?_
  refine sStore 0 rfl rfl rfl rfl rfl ty55 rfl (ctx_ones' hca) (ctx_len' hca) (by show 0 + 17 ≤ _; rw [ctx_len' ha]; exact Nat.le_refl _) ?_
  refine sStore 1 rfl rfl rfl rfl rfl ty55 rfl (ctx_ones' hcb) (ctx_len' hcb) (by show 0 + 17 ≤ _; rw [ctx_len' hb]; exact Nat.le_refl _) ?_
  refine lNil ?_
  refine wKeep [(2, .x (.pointer (some ⟨g2, 0, none⟩))), (3, .x (.pointer (some ⟨g3, 0, none⟩))), (4, .x (.pointer (some ⟨g4, 0, none⟩)))] [.cells g2 55 (encCt (cleanF y)), .cells g3 55 (encCt (cleanF z)), .cells g4 55 (iL zeroV ++ [.x (.slice none 0 0)])] [] ⟨rfl, rfl, rfl, trivial⟩ (by
    have e1 : spl (encCt y) 0 (encCt (cleanF y)) = encCt (cleanF y) := ctx_spl (ctx_len' ha) (ctx_len' hca)
    have e2 : spl (encCt z) 0 (encCt (cleanF z)) = encCt (cleanF z) := ctx_spl (ctx_len' hb) (ctx_len' hcb)
    show [HObj.cells g2 _ (spl (encCt y) 0 (encCt (cleanF y))), HObj.cells g3 _ (spl (encCt z) 0 (encCt (cleanF z))), _] = _
    rw [e1, e2]
    rfl) ?_
  refine wSeq ?_
  refine wDraw 13 (by kernel_rfl) (by kernel_rfl) ?_
  refine sP rfl rfl rfl (p_fieldAddr_own rfl rfl fl55_0 ty53 (by decide)) ?_
  refine sP rfl rfl rfl (pLdO 0 rfl rfl rfl ty53 (ctx_le hca) (ctx_V hca)) ?_
  refine sP rfl rfl rfl (p_fieldAddr_own rfl rfl fl55_0 ty53 (by decide)) ?_
  refine sP rfl rfl rfl (pLdO 1 rfl rfl rfl ty53 (ctx_le hcb) (ctx_V hcb)) ?_
  refine sP rfl rfl rfl (p_call rfl (vjoin_p (cleanF y).1 (cleanF z).1 hca hcb) ⟨Sub.refl, Sub.refl, trivial⟩) ?_
  refine sP rfl rfl rfl (p_fieldAddr_own rfl rfl fl55_1 ty27 (by decide)) ?_
  refine sP rfl rfl rfl (pLdO1 0 rfl rfl rfl ty27 (ctx_C hca)) ?_
  refine sP rfl rfl rfl (p_fieldAddr_own rfl rfl fl55_1 ty27 (by decide)) ?_
  refine sP rfl rfl rfl (pLdO1 1 rfl rfl rfl ty27 (ctx_C hcb)) ?_
  refine sP rfl rfl rfl (p_buildSlice (res := [slD (cleanF y).2, slD (cleanF z).2]) rfl ze27 Try.underlying184 ty27 (by decide) (by decide) rfl rfl rfl) ?_
  refine sP rfl rfl rfl (p_call rfl (dconcat2_p (cleanF y).2 (cleanF z).2 (by omega) (by omega)) ⟨Sub.refl, trivial⟩) ?_
  refine sP rfl rfl rfl (p_build (res := iL (vmax (cleanF y).1 (cleanF z).1) ++ [slD ((cleanF y).2 ++ (cleanF z).2)]) rfl ze55 pl55 rfl (ctx_fill (vmax_len hca hcb))) ?_
  refine sP rfl rfl rfl (p_call rfl (cclean_p (vmax (cleanF y).1 (cleanF z).1, (cleanF y).2 ++ (cleanF z).2) (vmax_len hca hcb) (by rw [List.length_append]; omega)) ⟨Sub.refl, trivial⟩) ?_
  refine lTail ?_
  refine sStore 2 rfl rfl rfl rfl rfl ty55 rfl (ctx_ones' (c := joinF y z) (clean_join ha hb).len) (ctx_len' (c := joinF y z) (clean_join ha hb).len) (Nat.le_of_ble_eq_true rfl) ?_
  refine lNil ?_
  refine wRet ?_
  have hcl := (clean_join ha hb).len
  have hsp : spl (iL zeroV ++ [.x (.slice none 0 0)]) 0 (encCt (joinF y z)) = encCt (joinF y z) := ctx_spl rfl (ctx_len' hcl)
  exact rgs1 (rg_cell rfl (List.mem_of_getElem? (i := 2) rfl) ty55 (.inl ⟨rfl, by show 17 ≤ (spl (iL zeroV ++ [.x (.slice none 0 0)]) 0 (encCt (joinF y z))).length; rw [hsp]; exact Nat.le_of_eq (ctx_len' hcl).symm, rfl⟩) (gives_sub (Sub.of_eq (by show AV.agg ((spl (iL zeroV ++ [.x (.slice none 0 0)]) 0 (encCt (joinF y z))).take 17) = _; rw [hsp]; exact congrArg AV.agg (List.take_of_length_le (Nat.le_of_eq (ctx_len' hcl)))))))
end Go.Proofs.Ytmhkalalcmkpbaa

namespace Go.Proofs.Ytmhkalalcmkpbaa
open Go Go.RowKit
set_option linter.unusedVariables false
set_option linter.unusedSimpArgs false
section
variable {P : Program} {C : Cx} {Q : Exit → AS → Prop} {s : AS} {ops : Array Oper} {rest : List Oper}
theorem st_freezeC {i t g : Nat} {T : TypeId} {cs : List AV} {a : Act} {w : World} (hi : s.h[i]? = some (.cells g T cs)) (ht : s.t t = .x (.pointer (some ⟨g, 0, none⟩))) (hs : C.St s a w) : C.St ⟨upd s.t t (.ip cs), s.h.set i .dead⟩ a w := by
  have hg : w.grownBy w (HObj.cells g T cs).blk := World.grownBy.refl _ _
  have hq : ∀ b, HObj.dead.blk = some b → (HObj.cells g T cs).blk = some b ∨ w.heap.size ≤ b := fun b hb => by cases hb
  have env2 := hs.env.set_ (q := .dead) hi hg (fun _ => Nat.le_refl _) trivial hq (fun b hb => by cases hb)
  have sl2 := slots_set (q := .dead) hs.env hi hg hq hs.slots
  refine ⟨env2, sl2.defers, sl2.size, fun u => ?_⟩
  by_cases hu : u = t
  · subst hu
    show Rep _ _ (upd s.t u (.ip cs) u) _
    rw [upd_same]
    have h1 := hs.slots.slot u
    rw [ht, rep_x] at h1
    have hm := List.mem_of_getElem? hi
    have hc := own_cells hs.env hm 0
    rw [List.drop_zero] at hc
    simp only [Rep]
    refine ⟨_, h1, hs.env.lt _ hm g rfl, ?_, RepC.mono (Kept.refl _ w) (owned_set (q := .dead) hi hs.env hq) _ _ hc⟩
    rintro (hx | ⟨o, ho, hob⟩)
    · have h5 := hs.env.ext _ hx
      have h6 := hs.env.new _ hm g rfl
      simp only at h5
      rcases h6 with h6 | h6
      · omega
      · exact h5.2 h6
    · obtain ⟨j, hj⟩ := List.mem_iff_getElem?.1 ho
      rw [List.getElem?_set] at hj
      split at hj
      · split at hj
        · obtain rfl : HObj.dead = o := by simpa using hj
          cases hob
        · cases hj
      · rename_i hne
        exact hne (hs.env.apart i j _ o g hi hj rfl hob)
  · show Rep _ _ (upd s.t t _ u) _
    rw [upd_ne _ _ hu]
    exact sl2.slot u
end
section
variable {P : Program} {C : Cx} {Q : Exit → AS → Prop} {f : Nat → AV} {h : List HObj} {ops : Array Oper} {rest : List Oper}
theorem wFreezeC {c : Code} (i t : Nat) {g : Nat} {T : TypeId} {cs : List AV} (hi : h[i]? = some (.cells g T cs)) (ht : f t = .x (.pointer (some ⟨g, 0, none⟩))) (kk : W P C c Q ⟨upd f t (.ip cs), h.set i .dead⟩) : W P C c Q ⟨f, h⟩ :=
  ⟨fun a w hs => kk.run a w (st_freezeC (s := ⟨f, h⟩) hi ht hs)⟩
end
section
variable {P : Program} {K : Prop} {N : Nat} {X : Nat → Prop} {h : List HObj} {f : Nat → AV} {o : Oper}
theorem p_indexAddr_arr_ip {t e : TypeId} {x y : Operand} {n i k : Nat} {b : Bool} {ik : IntKind} {z : Int} {cs : List AV} (ho : o.op = .indexAddr t x y) (hx : evalT f x = .ip cs) (ht : P.underlying t = some (.array n e)) (he : tyOf P e = some (b, k))
    (hy : evalT f y = .x (.int ik z)) (hz : z = (i : Int)) (hi : i < n) : PureOp P K N X h f o (.ip (cs.drop (i * k))) := pure_run fun a w w0 env H => by
  rw [ho] at H
  have h1 := H x (by simp [Op.operands])
  have h2 := H y (by simp [Op.operands])
  rw [hx] at h1
  rw [hy, rep_x] at h2
  simp only [Rep] at h1
  obtain ⟨ad, e1, h3, h4, hc⟩ := h1
  subst hz
  refine ⟨.pointer (some (ad.add (i * k))), ?_, ?_⟩
  · simp only [execOp, ho, e1, h2, Instr.indexAt, asIntOf, Sem.run_bind, Sem.run_pure, Result.andThen_ok, run_underlying ht, Instr.sureAddr]
    have : (0 : Int) ≤ (i : Int) ∧ (i : Int) < (n : Int) := by omega
    simp [this, run_sizeOf_ he, hi]
  · simp only [Rep]
    refine ⟨_, rfl, by rw [block_of_add]; exact h3, by rw [block_of_add]; exact h4, ?_⟩
    have := hc.drop (i * k)
    have e : (fun j => w.cell? ((ad.add (i * k)).add j)) = (fun j => w.cell? (ad.add (i * k + j))) := funext fun j => by rw [add_of_add]
    rw [e]; exact this
theorem pLdI {t : TypeId} {x : Operand} {cs : List AV} {k : Nat} (ho : o.op = .load t x) (hx : evalT f x = .ip cs) (ht : tyOf P t = some (true, k)) (hl : cs.length = k) : PureOp P K N X h f o (.agg cs) :=
  p_load_ip ho hx ht (.inl ⟨rfl, Nat.le_of_eq hl.symm, by rw [List.take_of_length_le (Nat.le_of_eq hl)]⟩)
theorem pLdI1 {t : TypeId} {x : Operand} {cs : List AV} {c : AV} (ho : o.op = .load t x) (hx : evalT f x = .ip cs) (ht : tyOf P t = some (false, 1)) (hc : cs[0]? = some c) : PureOp P K N X h f o c := p_load_ip ho hx ht (.inr ⟨rfl, hc⟩)
end
end Go.Proofs.Ytmhkalalcmkpbaa

namespace Go.Proofs.Ytmhkalalcmkpbaa
open Go
theorem ty169 : tyOf Try.prog 169 = some (false, 1) := by kernel_rfl
theorem ze169 : tyZero Try.prog 169 = some [.nilFunc] := by kernel_rfl
end Go.Proofs.Ytmhkalalcmkpbaa

namespace Go.Proofs.Ytmhkalalcmkpbaa
open Go Go.RowKit
set_option linter.unusedVariables false
set_option linter.unusedSimpArgs false

theorem lssq_t {a b : Int} (h : a < b) : icmp .lss a b = some true := congrArg some (decide_eq_true h)
theorem lssq_f {a b : Int} (h : ¬ a < b) : icmp .lss a b = some false := congrArg some (decide_eq_false h)
def hasFn (c : CtxT) : AV := .fn 123 [.ip (encCt c)]
def putFn (c : CtxT) (g : Nat) : AV := .fn 124 [.ip [hasFn c], .x (.pointer (some ⟨g, 0, none⟩))]
def outC (g : Nat) (v : Value) : HObj := .cells g 27 [.x v]
def PutR (g : Nat) (l : List (Int × Int)) (av : AV) (h' : List HObj) : Prop := av = .tup [] ∧ ∃ v', h' = [outC g v', DotS.factRow v' l]
theorem PutR.two {g : Nat} {l : List (Int × Int)} {av : AV} {h' : List HObj} (h : PutR g l av h') : ∃ p q, h' = [p, q] := by obtain ⟨_, v, h⟩ := h; exact ⟨_, _, h⟩
theorem PutR.pq {g : Nat} {l : List (Int × Int)} {av : AV} {p q : HObj} (h : PutR g l av [p, q]) : av = .tup [] ∧ ∃ v', p = outC g v' ∧ q = DotS.factRow v' l := by
  obtain ⟨h1, v, h2⟩ := h
  simp only [List.cons.injEq, and_true] at h2
  exact ⟨h1, v, h2.1, h2.2⟩
theorem push_cases (c : CtxT) (l : List (Int × Int)) (d : Int × Int) : (hasC c d = true ∧ (!hasC c d && decide ((l.length : Int) < 4096)) = false ∧ pushL c l d = l) ∨ (hasC c d = false ∧ (l.length : Int) < 4096 ∧ (!hasC c d && decide ((l.length : Int) < 4096)) = true ∧ pushL c l d = l ++ [d]) ∨ (hasC c d = false ∧ ¬ (l.length : Int) < 4096 ∧ (!hasC c d && decide ((l.length : Int) < 4096)) = false ∧ pushL c l d = l) := by
  unfold pushL
  cases h : hasC c d with
  | true => exact .inl ⟨rfl, rfl, by simp⟩
  | false =>
    by_cases h2 : (l.length : Int) < 4096
    · exact .inr (.inl ⟨rfl, h2, by rw [decide_eq_true h2]; rfl, if_pos ⟨rfl, by omega⟩⟩)
    · exact .inr (.inr ⟨rfl, h2, by rw [decide_eq_false h2]; rfl, if_neg fun g => h2 (by omega)⟩)
set_option maxRecDepth 100000 in
theorem has1_p (c : CtxT) (d : Int × Int) (hv : c.1.length = 16) (hn : c.2.length < 1000000) : PFn Try.prog False 123 [dA d, .ip (encCt c)] (bA (hasC c d)) := by
  refine pfn Try.func123 rfl (by kernel_rfl) 7 rfl _ rfl (Nat.le_of_ble_eq_true rfl) (fun X w0 => ?_)
  refine wSeq ?_
  refine wReg ?_
  refine sBox rfl rfl rfl rfl rfl (fun g2 => ?_)
  refine sP rfl rfl rfl (pA rfl rfl) ?_
  refine lNil ?_
  refine wSeq ?_
  refine wReg ?_
  refine sP rfl rfl rfl (pLdI rfl rfl ty55 (ctx_len' hv)) ?_
  refine sP rfl rfl rfl (pLdW 0 rfl rfl rfl ty23 rfl) ?_
  refine sP rfl rfl rfl (p_call rfl (chas_p c d hv hn) ⟨Sub.refl, Sub.refl, trivial⟩) ?_
  refine sP rfl rfl rfl (pA rfl rfl) ?_
  refine lNil ?_
  refine wRet ?_
  exact rgs1 (rg_tmp (gives_sub (Sub.of_eq (rfl))))
theorem has1_is {c : CtxT} {d : Int × Int} {b : Bool} (hv : c.1.length = 16) (hn : c.2.length < 1000000) (h : hasC c d = b) : PFn Try.prog False 123 [dA d, .ip (encCt c)] (bA b) := h ▸ has1_p c d hv hn

set_option maxRecDepth 100000 in
theorem put_m (c : CtxT) (d : Int × Int) (l : List (Int × Int)) (g : Nat) (v : Value) (hv : c.1.length = 16) (hn : c.2.length < 1000000) (hl : l.length ≤ 4096) : MFn Try.prog False 124 [dA d, .ip [hasFn c], .x (.pointer (some ⟨g, 0, none⟩))] [outC g v, DotS.factRow v l] (PutR g (pushL c l d)) := by
  refine mfn Try.func124 rfl (by kernel_rfl) 17 rfl _ rfl (Nat.le_of_ble_eq_true rfl) (fun X w0 => ?_)
  have hpu : (!hasC c d && decide ((l.length : Int) < 4096)) = true → pushL c l d = l ++ [d] := fun h => by
    rcases push_cases c l d with ⟨_, e, _⟩ | ⟨_, _, _, e⟩ | ⟨_, _, e, _⟩
    · rw [e] at h; cases h
    · exact e
    · rw [e] at h; cases h
  have hpn : (!hasC c d && decide ((l.length : Int) < 4096)) = false → pushL c l d = l := fun h => by
    rcases push_cases c l d with ⟨_, _, e⟩ | ⟨_, _, e, _⟩ | ⟨_, _, _, e⟩
    · exact e
    · rw [e] at h; cases h
    · exact e
  refine wSeq ?_
  refine wReg ?_
  refine sBox rfl rfl rfl rfl rfl (fun g3 => ?_)
  refine lNil ?_
  refine wCut (fun L h => ∃ b : Bool, b = (!hasC c d && decide ((l.length : Int) < 4096)) ∧ L = [(2, .x (.pointer (some ⟨g, 0, none⟩))), (3, .x (.pointer (some ⟨g3, 0, none⟩))), (12, bA b)] ∧ h = [outC g v, DotS.factRow v l, .cells g3 23 (encA d)]) ?_ ?_
  · rcases push_cases c l d with ⟨e1, hbv, _⟩ | ⟨e1, e2, hbv, _⟩ | ⟨e1, e2, hbv, _⟩
    · refine wReg ?_
      refine sP rfl rfl rfl (pLd1 rfl rfl ty169) ?_
      refine sP rfl rfl rfl (pLdW 2 rfl rfl rfl ty23 rfl) ?_
      refine sP rfl rfl rfl (p_callf rfl rfl (has1_is hv hn e1) ⟨Sub.refl, Sub.refl, trivial⟩) ?_
      refine sP rfl rfl rfl (p_not rfl rfl) ?_
      refine sP rfl rfl rfl (pM rfl rfl) ?_
      refine sUx rfl rfl rfl (by decide) rfl rfl ?_
      refine sUx rfl rfl rfl (by decide) rfl rfl ?_
      refine sUx rfl rfl rfl (by decide) rfl rfl ?_
      refine sP rfl rfl rfl (p_pick rfl rfl rfl) ?_
      refine lNil ?_
      exact ⟨_, [outC g v, DotS.factRow v l, .cells g3 23 (encA d)], _, ⟨_, (by exact hbv.symm), rfl, rfl⟩, ⟨rfl, rfl, rfl, trivial⟩, rfl⟩
    · refine wReg ?_
      refine sP rfl rfl rfl (pLd1 rfl rfl ty169) ?_
      refine sP rfl rfl rfl (pLdW 2 rfl rfl rfl ty23 rfl) ?_
      refine sP rfl rfl rfl (p_callf rfl rfl (has1_is hv hn e1) ⟨Sub.refl, Sub.refl, trivial⟩) ?_
      refine sP rfl rfl rfl (p_not rfl rfl) ?_
      refine sP rfl rfl rfl (pM rfl rfl) ?_
      refine sG rfl rfl rfl rfl rfl (pLdO1 0 rfl rfl rfl ty27 rfl) ?_
      refine sG rfl rfl rfl rfl rfl (p_len_row rfl rfl (List.mem_of_getElem? (i := 1) rfl) Try.underlying27) ?_
      refine sG rfl rfl rfl rfl rfl (p_icmp rfl rfl rfl (lssq_t e2)) ?_
      refine sP rfl rfl rfl (p_pick rfl rfl rfl) ?_
      refine lNil ?_
      exact ⟨_, [outC g v, DotS.factRow v l, .cells g3 23 (encA d)], _, ⟨_, (by exact hbv.symm), rfl, rfl⟩, ⟨rfl, rfl, rfl, trivial⟩, rfl⟩
    · refine wReg ?_
      refine sP rfl rfl rfl (pLd1 rfl rfl ty169) ?_
      refine sP rfl rfl rfl (pLdW 2 rfl rfl rfl ty23 rfl) ?_
      refine sP rfl rfl rfl (p_callf rfl rfl (has1_is hv hn e1) ⟨Sub.refl, Sub.refl, trivial⟩) ?_
      refine sP rfl rfl rfl (p_not rfl rfl) ?_
      refine sP rfl rfl rfl (pM rfl rfl) ?_
      refine sG rfl rfl rfl rfl rfl (pLdO1 0 rfl rfl rfl ty27 rfl) ?_
      refine sG rfl rfl rfl rfl rfl (p_len_row rfl rfl (List.mem_of_getElem? (i := 1) rfl) Try.underlying27) ?_
      refine sG rfl rfl rfl rfl rfl (p_icmp rfl rfl rfl (lssq_f e2)) ?_
      refine sP rfl rfl rfl (p_pick rfl rfl rfl) ?_
      refine lNil ?_
      exact ⟨_, [outC g v, DotS.factRow v l, .cells g3 23 (encA d)], _, ⟨_, (by exact hbv.symm), rfl, rfl⟩, ⟨rfl, rfl, rfl, trivial⟩, rfl⟩
  · rintro L h ⟨b, hb, rfl, rfl⟩
    refine wCond rfl (fun hc1 => ?_) (fun hc1 => ?_)
    · refine wReg ?_
      refine sP rfl rfl rfl (pLdO1 0 rfl rfl rfl ty27 rfl) ?_
      refine sP rfl rfl rfl (pLdW 2 rfl rfl rfl ty23 rfl) ?_
      refine sP rfl rfl rfl (p_buildSlice (res := [d].flatMap encA) rfl ze23 Try.underlying27 ty23 (by decide) (by decide) rfl rfl rfl) ?_
      refine sAppendL (enc := encA) (l := l) 1 [d] rfl rfl rfl rfl Try.underlying27 ro23 rfl rfl rfl (fun _ => rfl) (by rw [List.length_singleton]; omega) (by rw [List.length_singleton]; omega) (fun v16 => ?_)
      refine sStoreRow 0 1 rfl rfl rfl rfl rfl rfl ty27 rfl (Nat.le_of_ble_eq_true rfl) ?_
      refine lNil ?_
      exact ⟨_, [outC g v16, DotS.factRow v16 (l ++ [d])], _, rfl, ⟨rfl, v16, by rw [show pushL c l d = l ++ [d] from hpu (hb.symm.trans hc1)]⟩, rgm_none⟩
    · refine wSkip ?_
      exact ⟨_, [outC g v, DotS.factRow v l], _, rfl, ⟨rfl, v, by rw [show pushL c l d = l from hpn (hb.symm.trans hc1)]⟩, rgm_none⟩

theorem range_exit (A : CtxT) (P : List (Int × Int)) (i : Nat) {lo hi n : Int} (h0 : lo ≤ n) (h1 : n ≤ hi + 1 ∨ n = lo) (h : ¬ (n ≤ hi ∧ (lackT A (P ++ (rangeI lo (n - 1)).map fun n => ((i : Int), n))).length < 4096)) :
    lackT A (P ++ (rangeI lo (n - 1)).map fun n => ((i : Int), n)) = lackT A (P ++ (rangeI lo hi).map fun n => ((i : Int), n)) := by
  by_cases g : n ≤ hi
  · have hl : ¬ (lackT A (P ++ (rangeI lo (n - 1)).map fun n => ((i : Int), n))).length < 4096 := fun k => h ⟨g, k⟩
    have e : ∀ k : Nat, ∃ q, rangeI lo (n - 1 + k) = rangeI lo (n - 1) ++ q := by
      intro k
      induction k with
      | zero => exact ⟨[], by simp⟩
      | succ k ih =>
        obtain ⟨q, hq⟩ := ih
        refine ⟨q ++ [n - 1 + k + 1], ?_⟩
        rw [← List.append_assoc, ← hq, show n - 1 + ((k + 1 : Nat) : Int) = n - 1 + (k : Int) + 1 by omega]
        exact rangeI_snoc (by omega)
    obtain ⟨q, hq⟩ := e (hi - (n - 1)).toNat
    rw [show n - 1 + ((hi - (n - 1)).toNat : Int) = hi by omega] at hq
    rw [hq, List.map_append, ← List.append_assoc, lackT_full hl]
  · rcases h1 with h1 | h1
    · rw [show n - 1 = hi by omega]
    · subst h1
      rw [rangeI_nil (by omega), rangeI_nil (by omega)]
theorem range_next {lo n : Int} {i : Nat} (h : lo ≤ n) : ((rangeI lo (n - 1)).map fun n => ((i : Int), n)) ++ [((i : Int), n)] = (rangeI lo (n + 1 - 1)).map fun n => ((i : Int), n) := by
  rw [show n + 1 - 1 = n - 1 + 1 by omega, rangeI_snoc (by omega), List.map_append, show n - 1 + 1 = n by omega]; rfl
theorem ip_at {v : List Int} {a : AV} {i : Nat} {x : Int} (h : v[i]? = some x) : (((iL v ++ [a]).drop 0).drop (i * 1))[0]? = some (iA x) := by
  rw [List.drop_zero, List.getElem?_drop, Nat.add_zero]
  have := ctx_at (a := a) h
  rwa [Nat.zero_add] at this
theorem ip_C {v : List Int} {a : AV} (h : v.length = 16) : ((iL v ++ [a]).drop 16)[0]? = some a := by
  rw [List.getElem?_drop, Nat.add_zero]; exact ctx_C h
def moreN (n hi : Int) (l : List (Int × Int)) : Bool := decide (n ≤ hi) && decide ((l.length : Int) < 4096)
theorem more_yes {n hi : Int} {l : List (Int × Int)} (h : moreN n hi l = true) : n ≤ hi ∧ l.length < 4096 := by
  unfold moreN at h
  rw [Bool.and_eq_true, decide_eq_true_eq, decide_eq_true_eq] at h
  omega
theorem more_no {n hi : Int} {l : List (Int × Int)} (h : moreN n hi l = false) : ¬ (n ≤ hi ∧ l.length < 4096) := fun g => by
  unfold moreN at h
  rw [decide_eq_true g.1, decide_eq_true (by omega : (l.length : Int) < 4096)] at h
  cases h

set_option maxHeartbeats 1000000 in
set_option maxRecDepth 100000 in
theorem cmiss_p (y z : CtxT) (ha : y.1.length = 16) (hb0 : z.1.length = 16) (ha2 : y.2.length < 1000000) (hb2 : z.2.length < 1000000) : PFn Try.prog False 58 [ctA y, ctA z] (slD (missF y z)) := by
  refine pfn Try.func58 rfl (by kernel_rfl) 61 rfl _ rfl (Nat.le_of_ble_eq_true rfl) (fun X w0 => ?_)
  have hca := (clean_F ha).len
  have hcb := (clean_F hb0).len
  have hla := clean_len y
  have hlb := clean_len z
  refine wSeq ?_
  refine wReg ?_
  refine sBox rfl rfl rfl rfl rfl (fun g2 => ?_)
  refine sBox rfl rfl rfl rfl rfl (fun g3 => ?_)
  refine sP rfl rfl rfl (pA rfl rfl) ?_
  refine lNil ?_
  refine wSeq ?_
  refine wDrawM 4 (by kernel_rfl) (by kernel_rfl) (fun _ => [.cells g2 55 (encCt y), .cells g3 55 (encCt z)]) [] (by kernel_rfl) rfl (fun m _ => rfl) ?_
  refine dwP rfl rfl rfl rfl rfl (fun k al => (pLdW 0 rfl rfl rfl ty55 (ctx_len ha))) ?_
  refine dwP rfl rfl rfl rfl rfl (fun k al => (p_call rfl (cclean_p y ha ha2) ⟨Sub.refl, trivial⟩)) ?_
  refine dwP rfl rfl rfl rfl rfl (fun k al => (pLdW 1 rfl rfl rfl ty55 (ctx_len hb0))) ?_
  refine dwP rfl rfl rfl rfl rfl (fun k al => (p_call rfl (cclean_p z hb0 hb2) ⟨Sub.refl, trivial⟩)) ?_
  refine dwNil ?_
  refine sStore 0 rfl rfl rfl rfl rfl ty55 rfl (ctx_ones' hca) (ctx_len' hca) (by show 0 + 17 ≤ _; rw [ctx_len' ha]; exact Nat.le_refl _) ?_
  refine sStore 1 rfl rfl rfl rfl rfl ty55 rfl (ctx_ones' hcb) (ctx_len' hcb) (by show 0 + 17 ≤ _; rw [ctx_len' hb0]; exact Nat.le_refl _) ?_
  refine lNil ?_
  refine wKeep [(2, .x (.pointer (some ⟨g2, 0, none⟩))), (3, .x (.pointer (some ⟨g3, 0, none⟩)))] [.cells g2 55 (encCt (cleanF y)), .cells g3 55 (encCt (cleanF z))] [] ⟨rfl, rfl, trivial⟩ (by
    have e1 : spl (encCt y) 0 (encCt (cleanF y)) = encCt (cleanF y) := ctx_spl (ctx_len' ha) (ctx_len' hca)
    have e2 : spl (encCt z) 0 (encCt (cleanF z)) = encCt (cleanF z) := ctx_spl (ctx_len' hb0) (ctx_len' hcb)
    show [HObj.cells g2 _ (spl (encCt y) 0 (encCt (cleanF y))), HObj.cells g3 _ (spl (encCt z) 0 (encCt (cleanF z)))] = _
    rw [e1, e2]
    rfl) ?_
  refine wFreezeC 0 2 rfl rfl ?_
  refine wFreezeC 1 3 rfl rfl ?_
  refine wSeq ?_
  refine wReg ?_
  refine sP rfl rfl rfl (p_makeFn rfl rfl (SubL.refl _)) ?_
  refine sAlloc rfl rfl rfl rfl ze169 (fun g5 => ?_)
  refine sStore1 2 rfl rfl rfl rfl rfl ty169 rfl rfl (Nat.le_of_ble_eq_true rfl) ?_
  refine lNil ?_
  refine wFreezeC 2 5 rfl rfl ?_
  refine wSeq ?_
  refine wReg ?_
  refine sAlloc rfl rfl rfl rfl ze27 (fun g6 => ?_)
  refine lNil ?_
  refine wSeq ?_
  refine wReg ?_
  refine sP rfl rfl rfl (p_makeFn rfl rfl (SubL.refl _)) ?_
  refine sP rfl rfl rfl (pAf rfl rfl) ?_
  refine lNil ?_
  refine wNilrow 23 2 ?_
  refine wPerm [outC g6 (.slice none 0 0), DotS.factRow (.slice none 0 0) [], .dead, .dead, .dead] (List.perm_append_comm (l₁ := ([.dead, .dead, .dead] : List HObj)) (l₂ := [outC g6 (.slice none 0 0), DotS.factRow (.slice none 0 0) []])) ?_
  refine wSeq ?_
  refine wSeq ?_
  refine wReg ?_
  refine sP rfl rfl rfl (pM rfl rfl) ?_
  refine lNil ?_
  refine wBlock ?_
  refine wLoop (fun mm L h => ∃ i v, mm = 16 - i ∧ i ≤ 16 ∧ L = [(2, .ip (encCt (cleanF y))), (3, .ip (encCt (cleanF z))), (6, .x (.pointer (some ⟨g6, 0, none⟩))), (7, putFn (cleanF y) g6), (18, iA (i : Nat))] ∧ h = [outC g6 v, DotS.factRow v (lackT (cleanF y) (allC (cleanF y) (cleanF z) i))]) ⟨_, _, [outC g6 (.slice none 0 0), DotS.factRow (.slice none 0 0) []], _, ⟨0, .slice none 0 0, rfl, Nat.zero_le _, rfl, rfl⟩, ⟨rfl, rfl, rfl, rfl, rfl, trivial⟩, rfl⟩ ?_
  rintro mm L h ⟨i, v, rfl, hi, rfl, rfl⟩
  refine wSeq ?_
  refine wReg ?_
  refine sP rfl rfl rfl (p_icmp rfl rfl rfl rfl) ?_
  refine lNil ?_
  refine wSeq ?_
  refine wCond rfl (fun hc1 => ?_) (fun hc1 => ?_)
  · have hi16 : i < 16 := by have h := hc1; simp at h; omega
    have hxa : (cleanF y).1[i]? = some (vget (cleanF y).1 i) := vget_at (r := (i : Int)) hca (by omega) (by omega)
    have hxb : (cleanF z).1[i]? = some (vget (cleanF z).1 i) := vget_at (r := (i : Int)) hcb (by omega) (by omega)
    have hra := (clean_F ha).at_ i
    have hrb := (clean_F hb0).at_ i
    refine wSkip ?_
    refine wSeq ?_
    refine wBlock ?_
    refine wSeq ?_
    refine wReg ?_
    refine sP rfl rfl rfl (pM rfl rfl) ?_
    refine sP rfl rfl rfl (pA rfl rfl) ?_
    refine lNil ?_
    refine wSeq ?_
    refine wSeq ?_
    refine wReg ?_
    refine sP rfl rfl rfl (pM rfl rfl) ?_
    refine sP rfl rfl rfl (p_fieldAddr_ip rfl rfl fl55_0 ty53 (by decide)) ?_
    refine sP rfl rfl rfl (p_indexAddr_arr_ip rfl rfl Try.underlying53 ty3 rfl (i := i) rfl hi16) ?_
    refine sP rfl rfl rfl (pLdI1 rfl rfl ty3 (ip_at hxa)) ?_
    refine sP rfl rfl rfl (p_iar rfl rfl rfl (by show some _ = some _; rw [wrapI (by omega) (by omega)])) ?_
    refine sP rfl rfl rfl (pA rfl rfl) ?_
    refine lNil ?_
    refine wBlock ?_
    refine wLoop (fun mm L h => ∃ n v, mm = (vget (cleanF z).1 i + 1 - n).toNat ∧ vget (cleanF y).1 i + 1 ≤ n ∧ (n ≤ vget (cleanF z).1 i + 1 ∨ n = vget (cleanF y).1 i + 1) ∧ L = [(2, .ip (encCt (cleanF y))), (3, .ip (encCt (cleanF z))), (6, .x (.pointer (some ⟨g6, 0, none⟩))), (7, putFn (cleanF y) g6), (8, iA (i : Nat)), (9, iA n), (18, iA (i : Nat))] ∧ h = [outC g6 v, DotS.factRow v (lackT (cleanF y) ((allC (cleanF y) (cleanF z) i) ++ ((rangeI (vget (cleanF y).1 i + 1) (n - 1)).map fun n => ((i : Int), n))))]) ⟨_, _, [outC g6 v, DotS.factRow v (lackT (cleanF y) (allC (cleanF y) (cleanF z) i))], _, ⟨vget (cleanF y).1 i + 1, v, rfl, Int.le_refl _, .inr rfl, rfl, by rw [rangeI_nil (by omega), List.map_nil, List.append_nil]⟩, ⟨rfl, rfl, rfl, rfl, rfl, rfl, rfl, trivial⟩, rfl⟩ ?_
    rintro mm L h ⟨n, v, rfl, hn1, hn2, rfl, rfl⟩
    refine wSeq ?_
    refine wCut (fun L h => ∃ b : Bool, b = (moreN n (vget (cleanF z).1 i) (lackT (cleanF y) ((allC (cleanF y) (cleanF z) i) ++ ((rangeI (vget (cleanF y).1 i + 1) (n - 1)).map fun n => ((i : Int), n))))) ∧ L = [(2, .ip (encCt (cleanF y))), (3, .ip (encCt (cleanF z))), (6, .x (.pointer (some ⟨g6, 0, none⟩))), (7, putFn (cleanF y) g6), (8, iA (i : Nat)), (9, iA n), (18, iA (i : Nat)), (36, bA b)] ∧ h = [outC g6 v, DotS.factRow v (lackT (cleanF y) ((allC (cleanF y) (cleanF z) i) ++ ((rangeI (vget (cleanF y).1 i + 1) (n - 1)).map fun n => ((i : Int), n))))]) ?_ ?_
    · cases hb : (decide (n ≤ vget (cleanF z).1 i)) with
      | true =>
        refine wReg ?_
        refine sP rfl rfl rfl (pM rfl rfl) ?_
        refine sP rfl rfl rfl (pM rfl rfl) ?_
        refine sP rfl rfl rfl (p_fieldAddr_ip rfl rfl fl55_0 ty53 (by decide)) ?_
        refine sP rfl rfl rfl (p_indexAddr_arr_ip rfl rfl Try.underlying53 ty3 rfl (i := i) rfl hi16) ?_
        refine sP rfl rfl rfl (pLdI1 rfl rfl ty3 (ip_at hxb)) ?_
        refine sP rfl rfl rfl (p_icmp rfl rfl rfl (congrArg some hb)) ?_
        refine sP rfl rfl rfl (pM rfl rfl) ?_
        refine sG rfl rfl rfl rfl rfl (pLdO1 0 rfl rfl rfl ty27 rfl) ?_
        refine sG rfl rfl rfl rfl rfl (p_len_row rfl rfl (List.mem_of_getElem? (i := 1) rfl) Try.underlying27) ?_
        refine sG rfl rfl rfl rfl rfl (p_icmp rfl rfl rfl rfl) ?_
        refine sP rfl rfl rfl (p_pick rfl rfl rfl) ?_
        refine lNil ?_
        exact ⟨_, [outC g6 v, DotS.factRow v (lackT (cleanF y) ((allC (cleanF y) (cleanF z) i) ++ ((rangeI (vget (cleanF y).1 i + 1) (n - 1)).map fun n => ((i : Int), n))))], [], ⟨_, (by exact (by unfold moreN; rw [hb]; rfl)), rfl, rfl⟩, ⟨rfl, rfl, rfl, rfl, rfl, rfl, rfl, rfl, trivial⟩, rfl⟩
      | false =>
        refine wReg ?_
        refine sP rfl rfl rfl (pM rfl rfl) ?_
        refine sP rfl rfl rfl (pM rfl rfl) ?_
        refine sP rfl rfl rfl (p_fieldAddr_ip rfl rfl fl55_0 ty53 (by decide)) ?_
        refine sP rfl rfl rfl (p_indexAddr_arr_ip rfl rfl Try.underlying53 ty3 rfl (i := i) rfl hi16) ?_
        refine sP rfl rfl rfl (pLdI1 rfl rfl ty3 (ip_at hxb)) ?_
        refine sP rfl rfl rfl (p_icmp rfl rfl rfl (congrArg some hb)) ?_
        refine sP rfl rfl rfl (pM rfl rfl) ?_
        refine sU rfl rfl rfl (by decide) rfl rfl ?_
        refine sU rfl rfl rfl (by decide) rfl rfl ?_
        refine sU rfl rfl rfl (by decide) rfl rfl ?_
        refine sP rfl rfl rfl (p_pick rfl rfl rfl) ?_
        refine lNil ?_
        exact ⟨_, [outC g6 v, DotS.factRow v (lackT (cleanF y) ((allC (cleanF y) (cleanF z) i) ++ ((rangeI (vget (cleanF y).1 i + 1) (n - 1)).map fun n => ((i : Int), n))))], [], ⟨_, (by exact (by unfold moreN; rw [hb]; rfl)), rfl, rfl⟩, ⟨rfl, rfl, rfl, rfl, rfl, rfl, rfl, rfl, trivial⟩, rfl⟩
    · rintro L h ⟨b, hb, rfl, rfl⟩
      refine wCond rfl (fun hc2 => ?_) (fun hc2 => ?_)
      · obtain ⟨hle, hlt4⟩ := more_yes (hb.symm.trans hc2)
        refine wSkip ?_
        refine wSeq ?_
        refine wBlock ?_
        refine wReg ?_
        refine sP rfl rfl rfl (pMf rfl rfl) ?_
        refine sP rfl rfl rfl (pM rfl rfl) ?_
        refine sP rfl rfl rfl (pM rfl rfl) ?_
        refine sP rfl rfl rfl (p_build (res := [iA (i : Nat), iA n]) rfl ze23 pl23 rfl rfl) ?_
        refine sM2f 0 1 (by decide) rfl rfl rfl rfl rfl (put_m (cleanF y) ((i : Int), n) (lackT (cleanF y) ((allC (cleanF y) (cleanF z) i) ++ ((rangeI (vget (cleanF y).1 i + 1) (n - 1)).map fun n => ((i : Int), n)))) g6 v hca (by omega) (lackT_len _ _)) ⟨Sub.refl, Sub.refl, Sub.refl, trivial⟩ (fun _ _ h => h.two) (fun av q1 q2 hr => ?_)
        obtain ⟨rfl, v2, rfl, rfl⟩ := hr.pq
        refine lNil ?_
        refine wReg ?_
        refine sP rfl rfl rfl (pM rfl rfl) ?_
        refine sP rfl rfl rfl (p_iar rfl rfl rfl rfl) ?_
        refine sP rfl rfl rfl (pA rfl rfl) ?_
        refine lNil ?_
        refine ⟨_, _, [outC g6 v2, DotS.factRow v2 (lackT (cleanF y) ((allC (cleanF y) (cleanF z) i) ++ ((rangeI (vget (cleanF y).1 i + 1) (n + 1 - 1)).map fun n => ((i : Int), n))))], [], ?_, ⟨n + 1, v2, rfl, by omega, .inl (by omega), rfl, rfl⟩, ⟨rfl, rfl, rfl, rfl, rfl, avI (wrapI (by omega) (by omega)), rfl, trivial⟩, ?_⟩
        · omega
        · rw [← range_next hn1, ← List.append_assoc, lackT_push]; rfl
      · have hex := range_exit (cleanF y) (allC (cleanF y) (cleanF z) i) i hn1 hn2 (more_no (hb.symm.trans hc2))
        refine wExit ?_
        refine wSeq ?_
        refine wReg ?_
        refine sP rfl rfl rfl (p_fieldAddr_ip rfl rfl fl55_1 ty27 (by decide)) ?_
        refine sP rfl rfl rfl (pLdI1 rfl rfl ty27 (ip_C hcb)) ?_
        refine sP rfl rfl rfl (p_len_sl rfl rfl Try.underlying27) ?_
        refine sP rfl rfl rfl (pM rfl rfl) ?_
        refine lNil ?_
        refine wBlock ?_
        refine wLoop (fun mm L h => ∃ k v, mm = (cleanF z).2.length - k ∧ k ≤ (cleanF z).2.length ∧ L = [(2, .ip (encCt (cleanF y))), (3, .ip (encCt (cleanF z))), (6, .x (.pointer (some ⟨g6, 0, none⟩))), (7, putFn (cleanF y) g6), (8, iA (i : Nat)), (18, iA (i : Nat)), (45, slD (cleanF z).2), (46, iA (cleanF z).2.length), (47, iA (k : Nat))] ∧ h = [outC g6 v, DotS.factRow v (lackT (cleanF y) ((allC (cleanF y) (cleanF z) i) ++ ((rangeI (vget (cleanF y).1 i + 1) (vget (cleanF z).1 i)).map fun n => ((i : Int), n)) ++ atRep i ((cleanF z).2.take k)))]) ⟨_, _, [outC g6 v, DotS.factRow v (lackT (cleanF y) ((allC (cleanF y) (cleanF z) i) ++ ((rangeI (vget (cleanF y).1 i + 1) (n - 1)).map fun n => ((i : Int), n))))], _, ⟨0, v, rfl, Nat.zero_le _, rfl, by rw [show atRep i ((cleanF z).2.take 0) = [] from rfl, List.append_nil, ← hex]⟩, ⟨rfl, rfl, rfl, rfl, rfl, rfl, rfl, rfl, rfl, trivial⟩, rfl⟩ ?_
        rintro mm L h ⟨k, v, rfl, hk, rfl, rfl⟩
        refine wSeq ?_
        refine wReg ?_
        refine sP rfl rfl rfl (p_icmp rfl rfl rfl rfl) ?_
        refine lNil ?_
        refine wSeq ?_
        refine wCond rfl (fun hc3 => ?_) (fun hc3 => ?_)
        · have hlt : k < (cleanF z).2.length := by simpa using hc3
          obtain ⟨d, hd⟩ := getL hlt
          refine wSkip ?_
          refine wSeq ?_
          refine wBlock ?_
          refine wSeq ?_
          refine wReg ?_
          refine sP rfl rfl rfl (pIdx k rfl rfl Try.underlying27 ty23 (by decide) rfl (fun _ => rfl) rfl rfl hd) ?_
          refine sP rfl rfl rfl (pLdE rfl rfl ty23 rfl) ?_
          refine sAlloc rfl rfl rfl rfl ze23 (fun g11 => ?_)
          refine sStore 2 rfl rfl rfl rfl rfl ty23 rfl rfl rfl (Nat.le_of_ble_eq_true rfl) ?_
          refine lNil ?_
          refine wSeq ?_
          refine wReg ?_
          refine sP rfl rfl rfl (p_fieldAddr_own rfl rfl fl23_0 ty3 (by decide)) ?_
          refine sP rfl rfl rfl (pLdO1 2 rfl rfl rfl ty3 rfl) ?_
          refine sP rfl rfl rfl (pM rfl rfl) ?_
          refine sP rfl rfl rfl (p_icmp rfl rfl rfl rfl) ?_
          refine lNil ?_
          refine wCond rfl (fun hc4 => ?_) (fun hc4 => ?_)
          · refine wReg ?_
            refine sP rfl rfl rfl (pMf rfl rfl) ?_
            refine sP rfl rfl rfl (pLdW 2 rfl rfl rfl ty23 rfl) ?_
            refine sM2f 0 1 (by decide) rfl rfl rfl rfl rfl (put_m (cleanF y) d (lackT (cleanF y) ((allC (cleanF y) (cleanF z) i) ++ ((rangeI (vget (cleanF y).1 i + 1) (vget (cleanF z).1 i)).map fun n => ((i : Int), n)) ++ atRep i ((cleanF z).2.take k))) g6 v hca (by omega) (lackT_len _ _)) ⟨Sub.refl, Sub.refl, Sub.refl, trivial⟩ (fun _ _ h => h.two) (fun av q1 q2 hr => ?_)
            obtain ⟨rfl, v2, rfl, rfl⟩ := hr.pq
            refine lNil ?_
            refine wReg ?_
            refine sP rfl rfl rfl (p_iar rfl rfl rfl rfl) ?_
            refine sP rfl rfl rfl (pM rfl rfl) ?_
            refine lNil ?_
            have hr : d.1 = (i : Int) := by simpa using hc4
            have hat : atRep i ((cleanF z).2.take (k + 1)) = atRep i ((cleanF z).2.take k) ++ [d] := by rw [atRep_take hd, if_pos hr]
            refine ⟨_, _, [outC g6 v2, DotS.factRow v2 (lackT (cleanF y) ((allC (cleanF y) (cleanF z) i) ++ ((rangeI (vget (cleanF y).1 i + 1) (vget (cleanF z).1 i)).map fun n => ((i : Int), n)) ++ atRep i ((cleanF z).2.take (k + 1))))], [.cells g11 23 (encA d)], ?_, ⟨k + 1, v2, rfl, hlt, rfl, rfl⟩, ⟨rfl, rfl, rfl, rfl, rfl, rfl, rfl, rfl, avI (wrapI (by omega) (by omega)), trivial⟩, ?_⟩
            · omega
            · rw [hat, ← List.append_assoc, lackT_push]; rfl
          · refine wSkip ?_
            refine wReg ?_
            refine sP rfl rfl rfl (p_iar rfl rfl rfl rfl) ?_
            refine sP rfl rfl rfl (pM rfl rfl) ?_
            refine lNil ?_
            have hr : ¬ d.1 = (i : Int) := by simpa using hc4
            have hat : atRep i ((cleanF z).2.take (k + 1)) = atRep i ((cleanF z).2.take k) := by rw [atRep_take hd, if_neg hr]
            refine ⟨_, _, [outC g6 v, DotS.factRow v (lackT (cleanF y) ((allC (cleanF y) (cleanF z) i) ++ ((rangeI (vget (cleanF y).1 i + 1) (vget (cleanF z).1 i)).map fun n => ((i : Int), n)) ++ atRep i ((cleanF z).2.take (k + 1))))], [.cells g11 23 (encA d)], ?_, ⟨k + 1, v, rfl, hlt, rfl, rfl⟩, ⟨rfl, rfl, rfl, rfl, rfl, rfl, rfl, rfl, avI (wrapI (by omega) (by omega)), trivial⟩, ?_⟩
            · omega
            · rw [hat]; rfl
        · have hge : k = (cleanF z).2.length := by
            have h : ¬ k < (cleanF z).2.length := by simpa using hc3
            omega
          subst hge
          refine wExit ?_
          refine wReg ?_
          refine sP rfl rfl rfl (p_iar rfl rfl rfl rfl) ?_
          refine sP rfl rfl rfl (pM rfl rfl) ?_
          refine lNil ?_
          have hall : (allC (cleanF y) (cleanF z) i) ++ ((rangeI (vget (cleanF y).1 i + 1) (vget (cleanF z).1 i)).map fun n => ((i : Int), n)) ++ atRep i ((cleanF z).2.take (cleanF z).2.length) = allC (cleanF y) (cleanF z) (i + 1) := by rw [List.take_length, allC_succ, List.append_assoc]; rfl
          refine ⟨_, _, [outC g6 v, DotS.factRow v (lackT (cleanF y) (allC (cleanF y) (cleanF z) (i + 1)))], [], ?_, ⟨i + 1, v, rfl, hi16, rfl, rfl⟩, ⟨rfl, rfl, rfl, rfl, avI (wrapI (by omega) (by omega)), trivial⟩, ?_⟩
          · omega
          · rw [← hall]; rfl
  · have hge : i = 16 := by have h := hc1; simp at h; omega
    subst hge
    refine wExit ?_
    refine wSeq ?_
    refine wReg ?_
    refine sP rfl rfl rfl (pLdO1 0 rfl rfl rfl ty27 rfl) ?_
    refine sP rfl rfl rfl (pA rfl rfl) ?_
    refine lNil ?_
    refine wRet ?_
    exact rgs1 (rg_tmp (gives_row (List.mem_of_getElem? (i := 1) rfl)))
end Go.Proofs.Ytmhkalalcmkpbaa
