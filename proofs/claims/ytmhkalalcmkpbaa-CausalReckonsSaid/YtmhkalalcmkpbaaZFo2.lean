/-
  Fo Fo2
-/
import Derived.Test.YtmhkalalcmkpbaaZBT
import Derived.Test.YtmhkalalcmkpbaaZFacP
namespace Go.Proofs.Ytmhkalalcmkpbaa
open Go Go.RowKit
set_option linter.unusedVariables false
set_option linter.unusedSimpArgs false

theorem wrapI {n : Int} (h1 : -9223372036854775808 ≤ n) (h2 : n ≤ 9223372036854775807) : IntKind.i64.wrap n = n := by rw [IntKind.wrap_i64]; omega
theorem getL {α : Type} {l : List α} {i : Nat} (h : i < l.length) : ∃ x, l[i]? = some x := ⟨l[i], List.getElem?_eq_getElem h⟩
theorem avI {a b : Int} (h : a = b) : AV.x (.int .i64 a) = AV.x (.int .i64 b) := by rw [h]
theorem avB {a b : Bool} (h : a = b) : AV.x (.bool a) = AV.x (.bool b) := by rw [h]
abbrev iA (n : Int) : AV := .x (.int .i64 n)
abbrev bA (b : Bool) : AV := .x (.bool b)
abbrev sA (s : ByteArray) : AV := .x (.string s)
abbrev dA (d : Int × Int) : AV := .agg [iA d.1, iA d.2]
abbrev wA (s : Int × Int × Int) : AV := .agg [iA s.1, iA s.2.1, iA s.2.2]
def encF (d : FactT) : List AV := [iA d.1.1, iA d.1.2, iA d.2.1.1, iA d.2.1.2.1, iA d.2.1.2.2, iA d.2.2.1, sA d.2.2.2.1, sA d.2.2.2.2]
abbrev fA (d : FactT) : AV := .agg (encF d)
abbrev slF (l : List FactT) : AV := .sl 8 l.length (l.flatMap encF)

theorem GD.bl {K : Prop} {w w' : World} (h : GD w w') : Bl K w w' := ⟨h.below, fun _ => by obtain ⟨q, os, rfl⟩ := h; exact Nat.le_add_right _ _⟩
theorem bl_eq {K : Prop} {w w' : World} (h : w = w') : Bl K w w' := h ▸ Bl.refl K w
theorem bl_weak {w w' : World} (h : Below w.heap.size w w') : Bl False w w' := ⟨h, fun h => h.elim⟩

theorem scmp_p {K : Prop} (a b : ByteArray) : PFn Try.prog K 144 [sA a, sA b] (iA (cmpStr a b)) := pfn_ex rfl rfl (enter_of Try.func144 (by kernel_rfl) rfl) fun w => (scmp_c a b w).mono fun e w' ⟨h1, h2⟩ => ⟨h1, bl_eq h2⟩
theorem icmp_p {K : Prop} (a b : Int) : PFn Try.prog K 145 [iA a, iA b] (iA (cmpI a b)) := pfn_ex rfl rfl (enter_of Try.func145 (by kernel_rfl) rfl) fun w => (icmp_c a b w).mono fun e w' ⟨h1, h2⟩ => ⟨h1, bl_eq h2⟩
theorem dorder_p {K : Prop} (a b : Int × Int) : PFn Try.prog K 130 [dA a, dA b] (iA (ordD a b)) := pfn_ex rfl rfl (enter_of Try.func130 (by kernel_rfl) rfl) fun w => (order_c a b w).mono fun e w' ⟨h1, q, o1, o2, o3, h2⟩ => ⟨h1, by
  subst h2
  exact ((GD.refl w).alloc o1 |>.alloc o2 |>.alloc o3 |>.drewN q).bl⟩
theorem sless_p {K : Prop} (a b : Int × Int × Int) : PFn Try.prog K 148 [wA a, wA b] (bA (ltS a b)) := pfn_ex rfl rfl (enter_of Try.func148 (by kernel_rfl) rfl) fun w => (sless_c a b w).mono fun e w' ⟨h1, h2⟩ => ⟨h1, h2.bl⟩

set_option maxRecDepth 100000 in
theorem dless_p {K : Prop} (a b : Int × Int) : PFn Try.prog K 79 [dA a, dA b] (bA (ltD a b)) := by
  refine pfn Try.func79 rfl (by kernel_rfl) 9 rfl _ rfl (Nat.le_of_ble_eq_true rfl) (fun X w0 => ?_)
  refine wSeq ?_
  refine wReg ?_
  refine sBox rfl rfl rfl rfl rfl (fun g2 => ?_)
  refine sBox rfl rfl rfl rfl rfl (fun g3 => ?_)
  refine sP rfl rfl rfl (pA rfl rfl) ?_
  refine lNil ?_
  refine wSeq ?_
  refine wReg ?_
  refine sP rfl rfl rfl (pLdW 0 rfl rfl rfl ty23 rfl) ?_
  refine sP rfl rfl rfl (pLdW 1 rfl rfl rfl ty23 rfl) ?_
  refine sP rfl rfl rfl (p_call rfl (dorder_p a b) ⟨Sub.refl, Sub.refl, trivial⟩) ?_
  refine sP rfl rfl rfl (p_icmp rfl rfl rfl rfl) ?_
  refine sP rfl rfl rfl (pA rfl rfl) ?_
  refine lNil ?_
  refine wRet ?_
  exact rgs1 (rg_tmp (gives_sub (Sub.of_eq (avB (ordD_lt a b)))))

theorem orL_all {xs : List Int} {k : Nat} (h : k < xs.length) (hz : ∀ (j : Nat) y, j < k → xs[j]? = some y → y = 0) : orL xs = orL (xs.drop k) := by
  induction k with
  | zero => simp
  | succ k ih =>
    rw [ih (by omega) (fun j y hj hy => hz j y (by omega) hy)]
    have := hz k xs[k] (by omega) (List.getElem?_eq_getElem (by omega))
    exact orL_step (by omega) (by simp [List.getD, show k < xs.length by omega, this])
theorem orL_zero {xs : List Int} (hz : ∀ (j : Nat) y, xs[j]? = some y → y = 0) : orL xs = 0 := by
  induction xs with
  | nil => rfl
  | cons x xs ih =>
    have := hz 0 x rfl
    subst this
    have := ih fun j y hy => hz (j + 1) y (by simpa using hy)
    simpa [orL] using this

set_option maxRecDepth 100000 in
theorem or_p {K : Prop} (l : List Int) (hn : l.length < 1000000) : PFn Try.prog K 143 [.sl 1 l.length (l.flatMap fun x => [iA x])] (iA (orL l)) := by
  refine pfn Try.func143 rfl (by kernel_rfl) 18 rfl _ rfl (Nat.le_of_ble_eq_true rfl) (fun X w0 => ?_)
  refine wSeq ?_
  refine wReg ?_
  refine sP rfl rfl rfl (pA rfl rfl) ?_
  refine lNil ?_
  refine wSeq ?_
  refine wReg ?_
  refine sP rfl rfl rfl (pA rfl rfl) ?_
  refine lNil ?_
  refine wSeq ?_
  refine wSeq ?_
  refine wReg ?_
  refine sP rfl rfl rfl (pMs rfl rfl) ?_
  refine sP rfl rfl rfl (p_len_sl rfl rfl Try.underlying105) ?_
  refine sP rfl rfl rfl (pM rfl rfl) ?_
  refine lNil ?_
  refine wBlock ?_
  refine wLoop (fun mm L h => ∃ i, mm = l.length - i ∧ i ≤ l.length ∧ (∀ (j : Nat) y, j < i → l[j]? = some y → y = 0) ∧ L = [(3, iA 0), (6, .sl 1 l.length (l.flatMap fun x => [iA x])), (7, iA l.length), (8, iA (i : Nat))] ∧ h = []) ⟨_, _, _, _, ⟨0, rfl, Nat.zero_le _, fun j y hj => absurd hj (by omega), rfl, rfl⟩, ⟨rfl, rfl, rfl, rfl, trivial⟩, rfl⟩ ?_
  rintro mm L h ⟨i, rfl, hi, h0, rfl, rfl⟩
  refine wSeq ?_
  refine wReg ?_
  refine sP rfl rfl rfl (p_icmp rfl rfl rfl rfl) ?_
  refine lNil ?_
  refine wSeq ?_
  refine wCond rfl (fun hc => ?_) (fun hc => ?_)
  · have hlt : i < l.length := by simpa using hc
    obtain ⟨d, hd⟩ := getL hlt
    refine wSkip ?_
    refine wSeq ?_
    refine wBlock ?_
    refine wSeq ?_
    refine wReg ?_
    refine sP rfl rfl rfl (pIdx i rfl rfl Try.underlying105 ty3 (by decide) rfl (fun _ => rfl) rfl rfl hd) ?_
    refine sP rfl rfl rfl (pLd1 rfl rfl ty3) ?_
    refine sP rfl rfl rfl (pA rfl rfl) ?_
    refine lNil ?_
    refine wSeq ?_
    refine wReg ?_
    refine sP rfl rfl rfl (pM rfl rfl) ?_
    refine sP rfl rfl rfl (pM rfl rfl) ?_
    refine sP rfl rfl rfl (p_icmp rfl rfl rfl rfl) ?_
    refine lNil ?_
    refine wCond rfl (fun hc => ?_) (fun hc => ?_)
    · have hne : d ≠ 0 := by simpa using hc
      refine wSeq ?_
      refine wReg ?_
      refine sP rfl rfl rfl (pM rfl rfl) ?_
      refine sP rfl rfl rfl (pA rfl rfl) ?_
      refine lNil ?_
      refine wRet ?_
      refine rgs1 (rg_tmp (gives_sub (Sub.of_eq (avI ?_))))
      have e : l.getD i 0 = d := by simp [List.getD, hd]
      rw [orL_all hlt h0, orL_stop hlt (by rw [e]; exact hne), e]
    · have he : d = 0 := by simpa using hc
      refine wSkip ?_
      refine wReg ?_
      refine sP rfl rfl rfl (p_iar rfl rfl rfl rfl) ?_
      refine sP rfl rfl rfl (pM rfl rfl) ?_
      refine lNil ?_
      refine ⟨_, _, [], _, ?_, ⟨i + 1, rfl, hlt, fun j y hj hy => ?_, rfl, rfl⟩, ⟨rfl, rfl, rfl, avI (wrapI (by omega) (by omega)), trivial⟩, rfl⟩
      · omega
      · rcases Nat.lt_or_ge j i with h | h
        · exact h0 j y h hy
        · obtain rfl : j = i := by omega
          rw [hd] at hy; injection hy with hy; rw [← hy]; exact he
  · have hge : i = l.length := by have : ¬ i < l.length := by simpa using hc
                                  omega
    refine wExit ?_
    refine wSeq ?_
    refine wReg ?_
    refine sP rfl rfl rfl (pM rfl rfl) ?_
    refine sP rfl rfl rfl (pA rfl rfl) ?_
    refine lNil ?_
    refine wRet ?_
    refine rgs1 (rg_tmp (gives_sub (Sub.of_eq (avI (orL_zero fun j y hy => ?_).symm))))
    exact h0 j y (by rw [hge]; exact (List.getElem?_eq_some_iff.1 hy).1) hy

theorem mkd_p {K : Prop} : PFn Try.prog K 146 [.x (.func (.func 79) #[] #[])] (.fn 170 [.ip [.x (.func (.func 79) #[] #[])]]) := by
  refine pfn Try.func146 rfl (by kernel_rfl) 4 rfl _ rfl (Nat.le_of_ble_eq_true rfl) (fun X w0 => ?_)
  refine wSeq ?_
  refine wReg ?_
  refine sBox1 rfl rfl rfl rfl rfl rfl (fun g1 => ?_)
  refine sP rfl rfl rfl (pA rfl rfl) ?_
  refine lNil ?_
  refine wSeq ?_
  refine wReg ?_
  refine sP rfl rfl rfl (p_makeFn rfl rfl (SubL.refl _)) ?_
  refine sP rfl rfl rfl (pAf rfl rfl) ?_
  refine lNil ?_
  refine wRet ?_
  exact rgs1 (rg_tmp (gives_fn ⟨gives_ip (List.mem_of_getElem? (i := 0) rfl), trivial⟩))
theorem mks_p {K : Prop} : PFn Try.prog K 147 [.x (.func (.func 148) #[] #[])] (.fn 171 [.ip [.x (.func (.func 148) #[] #[])]]) := by
  refine pfn Try.func147 rfl (by kernel_rfl) 4 rfl _ rfl (Nat.le_of_ble_eq_true rfl) (fun X w0 => ?_)
  refine wSeq ?_
  refine wReg ?_
  refine sBox1 rfl rfl rfl rfl rfl rfl (fun g1 => ?_)
  refine sP rfl rfl rfl (pA rfl rfl) ?_
  refine lNil ?_
  refine wSeq ?_
  refine wReg ?_
  refine sP rfl rfl rfl (p_makeFn rfl rfl (SubL.refl _)) ?_
  refine sP rfl rfl rfl (pAf rfl rfl) ?_
  refine lNil ?_
  refine wRet ?_
  exact rgs1 (rg_tmp (gives_fn ⟨gives_ip (List.mem_of_getElem? (i := 0) rfl), trivial⟩))
end Go.Proofs.Ytmhkalalcmkpbaa

namespace Go.Proofs.Ytmhkalalcmkpbaa
open Go Go.RowKit
set_option linter.unusedVariables false
set_option linter.unusedSimpArgs false

theorem orL5 (a b c d e : Int) : orL [a, b, c, d, e] = orI a (orI b (orI c (orI d e))) := by
  have h : (if e = 0 then (0 : Int) else e) = e := by split <;> omega
  simp only [orL, orI, h]

set_option maxRecDepth 100000 in
theorem byd_p {K : Prop} (a b : Int × Int) : PFn Try.prog K 170 [dA a, dA b, .ip [.x (.func (.func 79) #[] #[])]] (iA (byL (ltD a b) (ltD b a))) := by
  refine pfn Try.func170 rfl (by kernel_rfl) 16 rfl _ rfl (Nat.le_of_ble_eq_true rfl) (fun X w0 => ?_)
  refine wSeq ?_
  refine wReg ?_
  refine sBox rfl rfl rfl rfl rfl (fun g3 => ?_)
  refine sBox rfl rfl rfl rfl rfl (fun g4 => ?_)
  refine sP rfl rfl rfl (pA rfl rfl) ?_
  refine lNil ?_
  refine wSeq ?_
  refine wBlock ?_
  refine wSeq ?_
  refine wReg ?_
  refine sP rfl rfl rfl (pLd1 rfl rfl ty116) ?_
  refine sP rfl rfl rfl (pLdW 0 rfl rfl rfl ty23 rfl) ?_
  refine sP rfl rfl rfl (pLdW 1 rfl rfl rfl ty23 rfl) ?_
  refine sP rfl rfl rfl (p_callv (us := []) rfl rfl (dless_p a b) ⟨Sub.refl, Sub.refl, trivial⟩) ?_
  refine sP rfl rfl rfl (pA rfl rfl) ?_
  refine lNil ?_
  refine wCond rfl (fun hc => ?_) (fun hc => ?_)
  · refine wSeq ?_
    refine wReg ?_
    refine sP rfl rfl rfl (pA rfl rfl) ?_
    refine lNil ?_
    refine wRet ?_
    exact rgs1 (rg_tmp (gives_sub (Sub.of_eq (avI (by simp [byL, hc])))))
  · refine wSeq ?_
    refine wReg ?_
    refine sP rfl rfl rfl (pLd1 rfl rfl ty116) ?_
    refine sP rfl rfl rfl (pLdW 1 rfl rfl rfl ty23 rfl) ?_
    refine sP rfl rfl rfl (pLdW 0 rfl rfl rfl ty23 rfl) ?_
    refine sP rfl rfl rfl (p_callv (us := []) rfl rfl (dless_p b a) ⟨Sub.refl, Sub.refl, trivial⟩) ?_
    refine sP rfl rfl rfl (pA rfl rfl) ?_
    refine lNil ?_
    refine wCond rfl (fun hc2 => ?_) (fun hc2 => ?_)
    · refine wSeq ?_
      refine wReg ?_
      refine sP rfl rfl rfl (pA rfl rfl) ?_
      refine lNil ?_
      refine wRet ?_
      exact rgs1 (rg_tmp (gives_sub (Sub.of_eq (avI (by simp [byL, hc, hc2])))))
    · refine wSkip ?_
      refine wSeq ?_
      refine wReg ?_
      refine sP rfl rfl rfl (pA rfl rfl) ?_
      refine lNil ?_
      refine wRet ?_
      exact rgs1 (rg_tmp (gives_sub (Sub.of_eq (avI (by simp [byL, hc, hc2])))))

set_option maxRecDepth 100000 in
theorem bys_p {K : Prop} (a b : Int × Int × Int) : PFn Try.prog K 171 [wA a, wA b, .ip [.x (.func (.func 148) #[] #[])]] (iA (byL (ltS a b) (ltS b a))) := by
  refine pfn Try.func171 rfl (by kernel_rfl) 16 rfl _ rfl (Nat.le_of_ble_eq_true rfl) (fun X w0 => ?_)
  refine wSeq ?_
  refine wReg ?_
  refine sBox rfl rfl rfl rfl rfl (fun g3 => ?_)
  refine sBox rfl rfl rfl rfl rfl (fun g4 => ?_)
  refine sP rfl rfl rfl (pA rfl rfl) ?_
  refine lNil ?_
  refine wSeq ?_
  refine wBlock ?_
  refine wSeq ?_
  refine wReg ?_
  refine sP rfl rfl rfl (pLd1 rfl rfl ty197) ?_
  refine sP rfl rfl rfl (pLdW 0 rfl rfl rfl ty25 rfl) ?_
  refine sP rfl rfl rfl (pLdW 1 rfl rfl rfl ty25 rfl) ?_
  refine sP rfl rfl rfl (p_callv (us := []) rfl rfl (sless_p a b) ⟨Sub.refl, Sub.refl, trivial⟩) ?_
  refine sP rfl rfl rfl (pA rfl rfl) ?_
  refine lNil ?_
  refine wCond rfl (fun hc => ?_) (fun hc => ?_)
  · refine wSeq ?_
    refine wReg ?_
    refine sP rfl rfl rfl (pA rfl rfl) ?_
    refine lNil ?_
    refine wRet ?_
    exact rgs1 (rg_tmp (gives_sub (Sub.of_eq (avI (by simp [byL, hc])))))
  · refine wSeq ?_
    refine wReg ?_
    refine sP rfl rfl rfl (pLd1 rfl rfl ty197) ?_
    refine sP rfl rfl rfl (pLdW 1 rfl rfl rfl ty25 rfl) ?_
    refine sP rfl rfl rfl (pLdW 0 rfl rfl rfl ty25 rfl) ?_
    refine sP rfl rfl rfl (p_callv (us := []) rfl rfl (sless_p b a) ⟨Sub.refl, Sub.refl, trivial⟩) ?_
    refine sP rfl rfl rfl (pA rfl rfl) ?_
    refine lNil ?_
    refine wCond rfl (fun hc2 => ?_) (fun hc2 => ?_)
    · refine wSeq ?_
      refine wReg ?_
      refine sP rfl rfl rfl (pA rfl rfl) ?_
      refine lNil ?_
      refine wRet ?_
      exact rgs1 (rg_tmp (gives_sub (Sub.of_eq (avI (by simp [byL, hc, hc2])))))
    · refine wSkip ?_
      refine wSeq ?_
      refine wReg ?_
      refine sP rfl rfl rfl (pA rfl rfl) ?_
      refine lNil ?_
      refine wRet ?_
      exact rgs1 (rg_tmp (gives_sub (Sub.of_eq (avI (by simp [byL, hc, hc2])))))

set_option maxRecDepth 100000 in
theorem order_p {K : Prop} (x y : FactT) : PFn Try.prog K 113 [fA x, fA y] (iA (ordF x y)) := by
  refine pfn Try.func113 rfl (by kernel_rfl) 34 rfl _ rfl (Nat.le_of_ble_eq_true rfl) (fun X w0 => ?_)
  refine wSeq ?_
  refine wReg ?_
  refine sBox rfl rfl rfl rfl rfl (fun g2 => ?_)
  refine sBox rfl rfl rfl rfl rfl (fun g3 => ?_)
  refine sP rfl rfl rfl (pA rfl rfl) ?_
  refine lNil ?_
  refine wSeq ?_
  refine wDraw 30 (by kernel_rfl) (by kernel_rfl) ?_
  refine sP rfl rfl rfl (p_fieldAddr_own rfl rfl fl87_3 ty9 (by decide)) ?_
  refine sP rfl rfl rfl (pLdO1 0 rfl rfl rfl ty9 rfl) ?_
  refine sP rfl rfl rfl (p_fieldAddr_own rfl rfl fl87_3 ty9 (by decide)) ?_
  refine sP rfl rfl rfl (pLdO1 1 rfl rfl rfl ty9 rfl) ?_
  refine sP rfl rfl rfl (p_call rfl (scmp_p _ _) ⟨Sub.refl, Sub.refl, trivial⟩) ?_
  refine sP rfl rfl rfl (p_fieldAddr_own rfl rfl fl87_2 ty3 (by decide)) ?_
  refine sP rfl rfl rfl (pLdO1 0 rfl rfl rfl ty3 rfl) ?_
  refine sP rfl rfl rfl (p_fieldAddr_own rfl rfl fl87_2 ty3 (by decide)) ?_
  refine sP rfl rfl rfl (pLdO1 1 rfl rfl rfl ty3 rfl) ?_
  refine sP rfl rfl rfl (p_call rfl (icmp_p _ _) ⟨Sub.refl, Sub.refl, trivial⟩) ?_
  refine sP rfl rfl rfl (p_call rfl (mkd_p) ⟨Sub.refl, trivial⟩) ?_
  refine sP rfl rfl rfl (p_fieldAddr_own rfl rfl fl87_0 ty23 (by decide)) ?_
  refine sP rfl rfl rfl (pLdO 0 rfl rfl rfl ty23 (Nat.le_of_ble_eq_true rfl) rfl) ?_
  refine sP rfl rfl rfl (p_fieldAddr_own rfl rfl fl87_0 ty23 (by decide)) ?_
  refine sP rfl rfl rfl (pLdO 1 rfl rfl rfl ty23 (Nat.le_of_ble_eq_true rfl) rfl) ?_
  refine sP rfl rfl rfl (p_callf rfl rfl (byd_p x.1 y.1) ⟨Sub.refl, Sub.refl, Sub.refl, trivial⟩) ?_
  refine sP rfl rfl rfl (p_call rfl (mks_p) ⟨Sub.refl, trivial⟩) ?_
  refine sP rfl rfl rfl (p_fieldAddr_own rfl rfl fl87_1 ty25 (by decide)) ?_
  refine sP rfl rfl rfl (pLdO 0 rfl rfl rfl ty25 (Nat.le_of_ble_eq_true rfl) rfl) ?_
  refine sP rfl rfl rfl (p_fieldAddr_own rfl rfl fl87_1 ty25 (by decide)) ?_
  refine sP rfl rfl rfl (pLdO 1 rfl rfl rfl ty25 (Nat.le_of_ble_eq_true rfl) rfl) ?_
  refine sP rfl rfl rfl (p_callf rfl rfl (bys_p x.2.1 y.2.1) ⟨Sub.refl, Sub.refl, Sub.refl, trivial⟩) ?_
  refine sP rfl rfl rfl (p_fieldAddr_own rfl rfl fl87_4 ty9 (by decide)) ?_
  refine sP rfl rfl rfl (pLdO1 0 rfl rfl rfl ty9 rfl) ?_
  refine sP rfl rfl rfl (p_fieldAddr_own rfl rfl fl87_4 ty9 (by decide)) ?_
  refine sP rfl rfl rfl (pLdO1 1 rfl rfl rfl ty9 rfl) ?_
  refine sP rfl rfl rfl (p_call rfl (scmp_p _ _) ⟨Sub.refl, Sub.refl, trivial⟩) ?_
  refine sP rfl rfl rfl (p_buildSlice rfl ze3 Try.underlying105 ty3 (by decide) (by decide) rfl rfl rfl) ?_
  refine sP rfl rfl rfl (p_call rfl (or_p [cmpStr x.2.2.2.1 y.2.2.2.1, cmpI x.2.2.1 y.2.2.1, byD x.1 y.1, byW x.2.1 y.2.1, cmpStr x.2.2.2.2 y.2.2.2.2] (by simp)) ⟨Sub.refl, trivial⟩) ?_
  refine sP rfl rfl rfl (pA rfl rfl) ?_
  refine lTail ?_
  refine lNil ?_
  refine wRet ?_
  exact rgs1 (rg_tmp (gives_sub (Sub.of_eq (avI (orL5 _ _ _ _ _)))))

end Go.Proofs.Ytmhkalalcmkpbaa
