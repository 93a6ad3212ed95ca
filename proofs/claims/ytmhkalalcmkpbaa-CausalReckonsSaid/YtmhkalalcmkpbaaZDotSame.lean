/-
  DotSame
-/
import Derived.Test.YtmhkalalcmkpbaaZDotSmall
import Derived.Laws.StructEq
namespace Go.Proofs.Ytmhkalalcmkpbaa
open Go.RowKit
set_option linter.unusedVariables false
set_option linter.unusedSimpArgs false

theorem eq_dot (w : World) (a1 a2 b1 b2 : Int) : (Op.equalIn 10000 23 (.agg #[.int .i64 a1, .int .i64 a2]) (.agg #[.int .i64 b1, .int .i64 b2])).run Try.prog w = .ok (decide (a1 = b1 ∧ a2 = b2)) w := by
  rw [run_equalIn_struct w 9999 _ _ _ (by kernel_rfl) (by kernel_rfl)]
  go_simp
  by_cases h1 : a1 = b1 <;> by_cases h2 : a2 = b2 <;> simp [h1, h2]
theorem guard_dot : Try.prog.eqGuardType Try.prog.depth 23 = false := by kernel_rfl
attribute [local go_sem] eq_dot guard_dot

def encD (d : Int × Int) : List Value := [.int .i64 d.1, .int .i64 d.2]
/-- A slice of names that reads as l. -/
abbrev RdD (w : World) (B : Nat) (A : Option Addr) (n : Nat) (l : List (Int × Int)) : Prop := Reads w B 2 A n (l.flatMap encD)
theorem flat_length (l : List (Int × Int)) : (l.flatMap encD).length = l.length * 2 := by
  induction l with
  | nil => rfl
  | cons d l ih => rw [List.flatMap_cons, List.length_append, ih, List.length_cons]; simp [encD]; omega
theorem flat_get (l : List (Int × Int)) (k : Nat) (hk : k < l.length) : (l.flatMap encD)[k * 2]? = some (.int .i64 (l.getD k default).1) ∧ (l.flatMap encD)[k * 2 + 1]? = some (.int .i64 (l.getD k default).2) := by
  induction l generalizing k with
  | nil => simp at hk
  | cons d l ih =>
    cases k with
    | zero => simp [encD]
    | succ k =>
      have := ih k (by simpa using hk)
      have e1 : (k + 1) * 2 = k * 2 + 2 := by omega
      rw [List.flatMap_cons, e1]
      simp only [encD, List.cons_append, List.nil_append]
      simp only [List.getElem?_cons_succ, List.getD_cons_succ]
      exact this
theorem RdD.len {w : World} {B : Nat} {A : Option Addr} {n : Nat} {l : List (Int × Int)} (h : RdD w B A n l) : l.length = n := by
  have := h.1; rw [flat_length] at this; omega
theorem add_flat (b off n : Nat) : (⟨b, off, none⟩ : Addr).add n = ⟨b, off + n, none⟩ := by
  unfold Addr.add
  split
  · rename_i e; simp [e]
  · rfl
theorem RdD.get {w : World} {B : Nat} {A : Option Addr} {n k : Nat} {l : List (Int × Int)} (h : RdD w B A n l) (hk : k < n) : ∃ b off, A = some ⟨b, off, none⟩ ∧ b < B ∧
    w.cell? ⟨b, off + k * 2, none⟩ = some (.int .i64 (l.getD k default).1) ∧ w.cell? ⟨b, off + k * 2 + 1, none⟩ = some (.int .i64 (l.getD k default).2) := by
  obtain ⟨ad, e, hb, hc⟩ := h.2 (by omega)
  have := flat_get l k (by rw [h.len]; exact hk)
  have c1 := hc _ _ this.1
  have c2 := hc _ _ this.2
  have c0 := hc _ _ (flat_get l 0 (by rw [h.len]; omega)).1
  obtain ⟨b, off, spot⟩ := ad
  have hs : spot = none := by simpa [Addr.add] using World.cell?_spot c0
  subst hs
  rw [add_flat] at c1 c2
  exact ⟨b, off, e, hb, c1, by rw [Nat.add_assoc]; exact c2⟩

set_option maxHeartbeats 1000000 in
set_option maxRecDepth 100000 in
theorem rsame_c (A1 A2 : Option Addr) (n m c1 c2 B1 B2 : Nat) (xs ys : List (Int × Int)) (w : World) (h1 : RdD w B1 A1 n xs) (h2 : RdD w B2 A2 m ys) (hn : n < 1000000) (hm : m < 1000000) :
    Calls Try.prog 57 #[.slice A1 n c1, .slice A2 m c2] w fun e w' => e = .returned (.bool (decide (xs = ys))) ∧ ∃ q, w' = w.drewN q := by
  have HX := Lib.hid h1.len
  have HY := Lib.hid h2.len
  have H1 := Lib.hid h1
  have H2 := Lib.hid h2
  clear h1 h2
  by_cases hnm : n = m
  · subst hnm
    have hne : ((n : Int) != (n : Int)) = false := by simp
    generalize hd : decide (xs = ys) = r
    have HD := Lib.hid hd
    clear hd
    go_enter Try.func57, Try.ntmps57
    go_wp2_with fail
    go_loopw [5] (fun vi wr => ∃ (i : Nat), vi = .int .i64 i ∧ i ≤ n ∧ Hid (∃ q, wr = w.drewN q) ∧ Hid (xs.take i = ys.take i)) (fun vi _ => n - (intOf vi).toNat)
    case atStart => exact ⟨0, rfl, by omega, ⟨0, rfl⟩, rfl⟩
    case round =>
      obtain ⟨i, rfl, hin, HQ, HE⟩ := hrel
      by_cases hlt : i < n
      · obtain ⟨q, rfl⟩ := HQ.out
        obtain ⟨b1, o1, rfl, _, hc1, hc2⟩ := RdD.get H1.out hlt
        obtain ⟨b2, o2, rfl, _, hd1, hd2⟩ := RdD.get H2.out hlt
        have HN : Hid (xs.getD i default = ys.getD i default → xs.take (i + 1) = ys.take (i + 1)) := fun e => by
          have hx := HX.out; have hy := HY.out
          rw [List.take_succ_eq_append_getElem (by omega), List.take_succ_eq_append_getElem (by omega), HE.out]
          simp [List.getD, show i < xs.length by omega, show i < ys.length by omega] at e
          rw [e]
        have HM : Hid (¬ xs.getD i default = ys.getD i default → r = false) := fun e => by
          rw [← HD.out]; refine decide_eq_false (fun h => e (by rw [h]))
        clear HQ
        generalize xs.getD i default = x at hc1 hc2 HN HM
        generalize ys.getD i default = y at hd1 hd2 HN HM
        by_cases hxy : x = y
        · have HN2 := Lib.hid (HN.out hxy)
          subst hxy
          clear HN HM
          go_wp2_with fail
          go_quiet (fail)
          clear hc1 hc2 hd1 hd2
          go_wp2
          go_roundw
          case rel => exact ⟨i + 1, by go_num, by omega, ⟨_, rfl⟩, HN2⟩
          case measure => simp [intOf]; omega
        · have HR := Lib.hid (HM.out hxy)
          clear HN HM
          by_cases h1 : x.1 = y.1
          · have h2 : ¬ x.2 = y.2 := fun h2 => hxy (Prod.ext h1 h2)
            rw [h1] at hc1
            clear hxy h1
            go_wp2_with fail
            go_quiet (fail)
            clear hc1 hc2 hd1 hd2
            go_wp2
            go_ret
            exact ⟨ret_bool HR.out.symm, _, by first | exact rfl | exact World.drewN_drewN _ _ _⟩
          · clear hxy
            go_wp2_with fail
            go_quiet (fail)
            clear hc1 hc2 hd1 hd2
            go_wp2
            go_ret
            exact ⟨ret_bool HR.out.symm, _, by first | exact rfl | exact World.drewN_drewN _ _ _⟩
      · have hin' : i = n := by omega
        have HR : Hid (r = true) := by
          show _ = _
          rw [← HD.out]
          refine decide_eq_true ?_
          have := HE.out
          rw [hin', List.take_of_length_le (by rw [HX.out]; exact Nat.le_refl _), List.take_of_length_le (by rw [HY.out]; exact Nat.le_refl _)] at this
          exact this
        obtain ⟨q, rfl⟩ := HQ.out
        clear hin' HQ HE
        go_wp2
        go_ret
        exact ⟨ret_bool HR.out.symm, _, rfl⟩
  · have hne : ((n : Int) != (m : Int)) = true := by rw [bne_iff_ne]; omega
    have hr : decide (xs = ys) = false := decide_eq_false (fun e => hnm (by rw [← HX.out, ← HY.out, e]))
    rw [hr]
    clear hr
    go_enter Try.func57, Try.ntmps57
    go_wp2
    go_ret
    exact ⟨rfl, 0, rfl⟩
end Go.Proofs.Ytmhkalalcmkpbaa
