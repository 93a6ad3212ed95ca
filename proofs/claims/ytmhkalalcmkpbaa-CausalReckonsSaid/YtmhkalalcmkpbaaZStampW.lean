/-
  StampW
-/
import Derived.Test.YtmhkalalcmkpbaaZWireTextR
import Derived.Sort.Grow
namespace Go.Proofs.Ytmhkalalcmkpbaa
open Go.RowKit
set_option linter.unusedVariables false
set_option linter.unusedSimpArgs false

/-- The world with new blocks and draws, and nothing else. -/
def GD (w w' : World) : Prop := ∃ q os, w' = Sort.grow (w.drewN q) os
theorem GD.refl (w : World) : GD w w := ⟨0, #[], by rw [Sort.grow_empty]; rfl⟩
theorem GD.alloc {w w' : World} (h : GD w w') (o : Obj) : GD w (w'.alloc o) := by
  obtain ⟨q, os, rfl⟩ := h
  exact ⟨q, os ++ #[o], by rw [Sort.alloc_eq_grow, Sort.grow_grow]⟩
theorem GD.drewN {w w' : World} (h : GD w w') (n : Nat) : GD w (w'.drewN n) := by
  obtain ⟨q, os, rfl⟩ := h
  exact ⟨q + n, os, by simp [Sort.grow, World.drewN, Nat.add_assoc]⟩
theorem GD.drew {w w' : World} (h : GD w w') : GD w w'.drew := h.drewN 1
theorem GD.trans {w w' w'' : World} (h : GD w w') (k : GD w' w'') : GD w w'' := by
  obtain ⟨q, os, rfl⟩ := k
  obtain ⟨q2, os2, h2⟩ := h.drewN q
  exact ⟨q2, os2 ++ os, by rw [h2, Sort.grow_grow]⟩
theorem GD.below {w w' : World} (h : GD w w') : Below w.heap.size w w' := by
  obtain ⟨q, os, rfl⟩ := h
  refine ⟨rfl, rfl, rfl, ?_, fun k hk => ?_⟩
  · show w.heap.size ≤ (w.heap ++ os).size
    rw [Array.size_append]; omega
  · show (w.heap ++ os)[k]? = w.heap[k]?
    rw [Array.getElem?_append_left hk]
/-- A stamp's value. -/
abbrev stv (s : Int × Int × Int) : Value := .agg #[.int .i64 s.1, .int .i64 s.2.1, .int .i64 s.2.2]
def ltS (a b : Int × Int × Int) : Bool := decide (a.1 < b.1 ∨ (a.1 = b.1 ∧ (a.2.1 < b.2.1 ∨ (a.2.1 = b.2.1 ∧ a.2.2 < b.2.2))))
/-- The first that is not nought. -/
def orL : List Int → Int
  | [] => 0
  | x :: r => if x = 0 then orL r else x

theorem orL_step {xs : List Int} {k : Nat} (h : k < xs.length) (h0 : xs.getD k 0 = 0) : orL (xs.drop k) = orL (xs.drop (k + 1)) := by
  rw [List.drop_eq_getElem_cons h]
  show (if xs[k] = 0 then _ else _) = _
  rw [if_pos (by simpa [List.getD, h] using h0)]
theorem orL_stop {xs : List Int} {k : Nat} (h : k < xs.length) (h0 : ¬ xs.getD k 0 = 0) : orL (xs.drop k) = xs.getD k 0 := by
  rw [List.drop_eq_getElem_cons h]
  show (if xs[k] = 0 then _ else _) = _
  rw [if_neg (by simpa [List.getD, h] using h0)]; simp [List.getD, h]

set_option maxHeartbeats 1000000 in
set_option maxRecDepth 100000 in
theorem orl_c (g n : Nat) (xs : List Int) (w : World) (hn : xs.length = n) (h1000 : n < 1000) (hc : ∀ k, k < n → w.cell? ⟨g, k, none⟩ = some (.int .i64 (xs.getD k 0))) :
    Calls Try.prog 143 #[.slice (some ⟨g, 0, none⟩) n n] w fun e w' => e = .returned (.int .i64 (orL xs)) ∧ w = w' := by
  have HN := Lib.hid hn
  have HC := Lib.hid hc
  generalize hr : orL xs = r
  have HR := Lib.hid hr
  clear hn hc hr
  go_enter Try.func143, Try.ntmps143
  go_wp2_with fail
  go_loopw [5, 8] (fun _ vi wr => ∃ (k : Nat), vi = .int .i64 k ∧ k ≤ n ∧ Hid (orL (xs.drop k) = r) ∧ wr = w) (fun _ vi _ => n - (intOf vi).toNat)
  case atStart => exact ⟨0, rfl, by omega, HR, rfl⟩
  case round =>
    obtain ⟨k, rfl, hk, HO, rfl⟩ := hrel
    by_cases hlt : k < n
    · have c1 := HC.out k hlt
      have HST := Lib.hid (fun h => (orL_step (xs := xs) (k := k) (by rw [HN.out]; exact hlt) h).symm.trans HO.out)
      have HSP := Lib.hid (fun h => (orL_stop (xs := xs) (k := k) (by rw [HN.out]; exact hlt) h).symm.trans HO.out)
      generalize xs.getD k 0 = x at *
      by_cases h0 : x = 0
      · subst h0
        have HS2 := Lib.hid (HST.out rfl)
        clear HST HSP
        go_wp2_with fail
        go_roundw
        case rel => exact ⟨k + 1, by go_num, by omega, HS2, trivial⟩
        case measure => simp [intOf]; omega
      · have HS2 := Lib.hid (HSP.out h0)
        have hb : (x != 0) = true := by simpa using h0
        clear HST HSP
        go_wp2_with fail
        go_ret
        exact ⟨ret_int HS2.out, rfl⟩
    · have hk2 : k = n := by omega
      have HZ : Hid (0 = r) := by
        show _ = _
        rw [← HO.out, hk2, List.drop_of_length_le (by rw [HN.out]; exact Nat.le_refl _)]; rfl
      clear hk2
      go_wp2_with fail
      go_ret
      exact ⟨ret_int HZ.out, rfl⟩
def ordS (a b : Int × Int × Int) : Int := orL [cmpI a.1 b.1, cmpI a.2.1 b.2.1, cmpI a.2.2 b.2.2]
theorem ordS_lt (a b : Int × Int × Int) : decide (ordS a b < 0) = ltS a b := by
  unfold ltS ordS cmpI
  simp only [orL]
  refine decide_eq_decide.2 ?_
  repeat' split
  all_goals omega

set_option maxHeartbeats 1000000 in
set_option maxRecDepth 100000 in
theorem worder_c (a b : Int × Int × Int) (w : World) : Calls Try.prog 172 #[stv a, stv b] w fun e w' => e = .returned (.int .i64 (ordS a b)) ∧ GD w w' := by
  obtain ⟨a1, a2, a3⟩ := a
  obtain ⟨b1, b2, b3⟩ := b
  have c1 := fun w => (icmp_c a1 b1 w).mono fun e w' (h : _ ∧ w = w') => (⟨h.1, h.2.symm⟩ : _ ∧ w' = w)
  have c2 := fun w => (icmp_c a2 b2 w).mono fun e w' (h : _ ∧ w = w') => (⟨h.1, h.2.symm⟩ : _ ∧ w' = w)
  have c3 := fun w => (icmp_c a3 b3 w).mono fun e w' (h : _ ∧ w = w') => (⟨h.1, h.2.symm⟩ : _ ∧ w' = w)
  have hr : ordS (a1, a2, a3) (b1, b2, b3) = orL [cmpI a1 b1, cmpI a2 b2, cmpI a3 b3] := rfl
  rw [hr]; clear hr
  simp only [stv]
  generalize cmpI a1 b1 = x at *
  generalize cmpI a2 b2 = y at *
  generalize cmpI a3 b3 = z at *
  have HG : Hid (GD w (((w.alloc (.cells #[.int .i64 a1, .int .i64 a2, .int .i64 a3] 225)).alloc (.cells #[.int .i64 b1, .int .i64 b2, .int .i64 b3] 225)).drew)) := (((GD.refl w).alloc _).alloc _).drew
  go_enter Try.func172, Try.ntmps172
  go_wp2_with fail
  have fa0 : ((w.alloc (.cells #[.int .i64 a1, .int .i64 a2, .int .i64 a3] 225)).alloc (.cells #[.int .i64 b1, .int .i64 b2, .int .i64 b3] 225)).drew.cell? ⟨w.heap.size, 0, none⟩ = some (.int .i64 a1) := by simp
  have fa1 : ((w.alloc (.cells #[.int .i64 a1, .int .i64 a2, .int .i64 a3] 225)).alloc (.cells #[.int .i64 b1, .int .i64 b2, .int .i64 b3] 225)).drew.cell? ⟨w.heap.size, 1, none⟩ = some (.int .i64 a2) := by simp
  have fa2 : ((w.alloc (.cells #[.int .i64 a1, .int .i64 a2, .int .i64 a3] 225)).alloc (.cells #[.int .i64 b1, .int .i64 b2, .int .i64 b3] 225)).drew.cell? ⟨w.heap.size, 2, none⟩ = some (.int .i64 a3) := by simp
  have fb0 : ((w.alloc (.cells #[.int .i64 a1, .int .i64 a2, .int .i64 a3] 225)).alloc (.cells #[.int .i64 b1, .int .i64 b2, .int .i64 b3] 225)).drew.cell? ⟨w.heap.size + 1, 0, none⟩ = some (.int .i64 b1) := by simp
  have fb1 : ((w.alloc (.cells #[.int .i64 a1, .int .i64 a2, .int .i64 a3] 225)).alloc (.cells #[.int .i64 b1, .int .i64 b2, .int .i64 b3] 225)).drew.cell? ⟨w.heap.size + 1, 1, none⟩ = some (.int .i64 b2) := by simp
  have fb2 : ((w.alloc (.cells #[.int .i64 a1, .int .i64 a2, .int .i64 a3] 225)).alloc (.cells #[.int .i64 b1, .int .i64 b2, .int .i64 b3] 225)).drew.cell? ⟨w.heap.size + 1, 2, none⟩ = some (.int .i64 b3) := by simp
  refine wp_region_still_tail 15 (by kernel_rfl) (by kernel_rfl) ?_
  simp only [List.take_succ_cons, List.take_zero, List.drop_succ_cons, List.drop_zero]
  change wpStill _ _ (World.drew ((w.alloc (.cells #[.int .i64 a1, .int .i64 a2, .int .i64 a3] 225)).alloc (.cells #[.int .i64 b1, .int .i64 b2, .int .i64 b3] 225))) _ _ _
  generalize hw2 : World.drew ((w.alloc (.cells #[.int .i64 a1, .int .i64 a2, .int .i64 a3] 225)).alloc (.cells #[.int .i64 b1, .int .i64 b2, .int .i64 b3] 225)) = w2 at *
  repeat still_step
  still_call (c1 _)
  repeat still_step
  still_call (c2 _)
  repeat still_step
  still_call (c3 _)
  refine wpStill_nil ?_
  change wpList _ _ _ _ _ (World.drew ((w.alloc (.cells #[.int .i64 a1, .int .i64 a2, .int .i64 a3] 225)).alloc (.cells #[.int .i64 b1, .int .i64 b2, .int .i64 b3] 225)))
  rw [hw2]
  clear hw2
  have hor := orl_c w2.heap.size 3 [x, y, z] (w2.alloc (.cells #[.int .i64 x, .int .i64 y, .int .i64 z] 3)) rfl (by decide) (by
    intro k hk
    have : k = 0 ∨ k = 1 ∨ k = 2 := by omega
    rcases this with rfl | rfl | rfl <;> simp)
  go_wp2_with fail
  refine hor.mono ?_
  rintro e w' ⟨rfl, rfl⟩
  go_wp2
  go_ret
  exact ⟨rfl, HG.out.alloc _⟩

set_option maxRecDepth 100000 in
theorem sless_c (a b : Int × Int × Int) (w : World) : Calls Try.prog 148 #[stv a, stv b] w fun e w' => e = .returned (.bool (ltS a b)) ∧ GD w w' := by
  have c := worder_c a b
  have HL := Lib.hid (ordS_lt a b)
  generalize ltS a b = r at *
  generalize ordS a b = o at *
  obtain ⟨a1, a2, a3⟩ := a
  obtain ⟨b1, b2, b3⟩ := b
  simp only [stv] at c ⊢
  have HG : Hid (GD w ((w.alloc (.cells #[.int .i64 a1, .int .i64 a2, .int .i64 a3] 25)).alloc (.cells #[.int .i64 b1, .int .i64 b2, .int .i64 b3] 25))) := ((GD.refl w).alloc _).alloc _
  go_enter Try.func148, Try.ntmps148
  go_wp2_with fail
  refine (c _).mono ?_
  rintro e w' ⟨rfl, hg⟩
  go_wp2
  go_ret
  exact ⟨ret_bool HL.out, HG.out.trans hg⟩
end Go.Proofs.Ytmhkalalcmkpbaa
