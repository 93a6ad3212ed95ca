/-
  slices.insertionSortCmpFunc over []float64 with float.Sort's comparison sorts the stretch [a, b) by insertion; no condition but the row's bounds.
-/
import Derived.Test.YtngjfeielpnnnaaSortWalks
namespace Go.Proofs.Ytngjfeielpnnnaa
open Go.RowKit
open FloatPlain
open Stable
set_option linter.unusedVariables false
set_option linter.unusedSimpArgs false
attribute [local go_sem] run_frombits run_bits u64_signed

theorem run_store_float (P : Program) (w : World) (a : Addr) (m : Mode) (k : FloatKind) (b : Nat) : (store a (.float k b) m).run P w = stored P w a (.float k b) m := run_store P w a _ m rfl
attribute [local go_sem] run_store_float

theorem only_drew {a w : World} {row : Option Nat} (h : a.grownBy w row) : a.grownBy w.drew row := ⟨h.os, h.tape, h.output, h.size, h.block⟩
theorem only_drewN {a w : World} {row : Option Nat} (h : a.grownBy w row) (n : Nat) : a.grownBy (w.drewN n) row := ⟨h.os, h.tape, h.output, h.size, h.block⟩
theorem only_setCell {a w : World} {g : Nat} (h : a.grownBy w (some g)) {p : Addr} (hp : p.block = g ∨ a.heap.size ≤ p.block) (u : Value) : a.grownBy (w.setCell p u) (some g) :=
  ⟨h.os, h.tape, h.output, by simpa [World.setCell] using h.size, fun i hi hne => (Below.heap_setCell w p u i (by
    rintro rfl
    rcases hp with hp | hp
    · exact hne (by rw [hp])
    · omega)).trans (h.block i hi hne)⟩
theorem Row.drewN {w : World} {g : Nat} {l : List Nat} (h : Row w g l) (n : Nat) : Row (w.drewN n) g l := ⟨h.lt, h.cell, h.free, h.ok⟩
theorem Row.drew {w : World} {g : Nat} {l : List Nat} (h : Row w g l) : Row w.drew g l := ⟨h.lt, h.cell, h.free, h.ok⟩
theorem Row.mem {w : World} {g : Nat} {l : List Nat} (h : Row w g l) {i : Nat} (hi : i < l.length) : W64 (l.getD i default) := h.ok _ (by simp [List.getD, hi])

theorem quiet_add_left {P : Program} {f : FuncId} {args : Array Value} {w : World} {a n : Nat} {v : Value}
    (h : Calls P f args (w.drewN (a + n)) fun e w' => e = .returned v ∧ w.drewN (a + n) = w') :
    Calls P f args (w.drewN (a + n)) fun e w'' => e = .returned v ∧ ∃ m, w'' = w.drewN (a + m) :=
  h.mono fun _ _ ⟨he, hm⟩ => ⟨he, n, hm.symm⟩
theorem quiet_left {P : Program} {f : FuncId} {args : Array Value} {w : World} {n : Nat} {v : Value}
    (h : Calls P f args (w.drewN n) fun e w' => e = .returned v ∧ w.drewN n = w') : Calls P f args (w.drewN n) fun e w'' => e = .returned v ∧ ∃ m, w'' = w.drewN m :=
  h.mono fun _ _ ⟨he, hm⟩ => ⟨he, n, hm.symm⟩

/-- A world of the sort's: the row in block g holds l; nothing else that lay in w0 has turned. -/
def SortW (w0 : World) (g : Nat) (l : List Nat) (w : World) : Prop := Row w g l ∧ w0.grownBy w (some g)
theorem SortW.swapped {w0 w : World} {g : Nat} {l : List Nat} (h : SortW w0 g l w) (i j : Nat) (hi : i < l.length) (hj : j < l.length) :
    SortW w0 g (swp l i j) ((w.setCell ⟨g, i, none⟩ (.float .f64 (l.getD j default))).setCell ⟨g, j, none⟩ (.float .f64 (l.getD i default))).drew :=
  ⟨(swap_c i j g l w h.1 hi hj).drew, only_drew (only_setCell (only_setCell h.2 (.inl rfl) _) (.inl rfl) _)⟩
theorem SortW.drewN {w0 w : World} {g : Nat} {l : List Nat} (h : SortW w0 g l w) (n : Nat) : SortW w0 g l (w.drewN n) := ⟨h.1.drewN n, only_drewN h.2 n⟩
theorem SortW.cell2 {w0 w : World} {g : Nat} {l : List Nat} (h : SortW w0 g l w) (i j : Nat) (hi : i < l.length) (hj : j < l.length) (v : Value) : ∃ u, (w.setCell ⟨g, i, none⟩ v).cell? ⟨g, j, none⟩ = some u := by
  by_cases e : i = j
  · subst e; exact ⟨v, World.cell?_setCell_same _ _ _ (h.1.cell i hi)⟩
  · exact ⟨_, (World.cell?_setCell_other _ _ _ _ (by intro e'; injection e' with _ e' _; omega)).trans (h.1.cell j hj)⟩

/-- Which key is less. -/
def ltK (x y : Nat) : Bool := decide (keyB x < keyB y)
theorem cmpK_lt (x y : Nat) : decide (cmpK (keyB x) (keyB y) < 0) = ltK x y := by
  unfold cmpK ltK
  by_cases h1 : keyB x < keyB y
  · simp [h1]
  · by_cases h2 : keyB y < keyB x <;> simp [h1, h2]

set_option maxHeartbeats 1000000 in
set_option maxRecDepth 100000 in
theorem ins_c (g cap : Nat) (l0 : List Nat) (a b : Nat) (w0 w : World) (hS : SortW w0 g l0 w) (hab : a ≤ b) (hb : b ≤ l0.length) (hc : l0.length < 4611686018427387904) :
    Calls Try.prog 114 #[.slice (some ⟨g, 0, none⟩) l0.length cap, .int .i64 a, .int .i64 b, .func (.func 66) #[] #[]] w fun e w' => e = .returned (.tuple #[]) ∧ SortW w0 g (insSort ltK a b l0) w' := by
  have HS := Lib.hid hS
  clear hS
  go_enter Try.func114, Try.ntmps114
  go_wp2_with fail
  go_loopw [8] (fun vi wr => ∃ (i : Nat) (l : List Nat), vi = .int .i64 i ∧ a < i ∧ i ≤ b + 1 ∧ l.length = l0.length ∧ Hid (SortW w0 g l wr) ∧ Hid (insOuter ltK a (b - i) i l = insSort ltK a b l0)) (fun vi _ => b + 1 - (intOf vi).toNat)
  case atStart => exact ⟨a + 1, l0, by go_num, by omega, by omega, rfl, HS, rfl⟩
  case round =>
    clear HS
    obtain ⟨i, l, rfl, hai, hib, hl, HR, HO⟩ := hrel
    by_cases hlt : i < b
    · go_wp2_with fail
      go_loopw [9] (fun vj wr2 => ∃ (j : Nat) (m : List Nat), vj = .int .i64 j ∧ a ≤ j ∧ j ≤ i ∧ m.length = l0.length ∧ Hid (SortW w0 g m wr2) ∧ Hid (insInner ltK a j m = insInner ltK a i l)) (fun vj _ => (intOf vj).toNat)
      case atStart => exact ⟨i, l, rfl, by omega, Nat.le_refl _, hl, HR, rfl⟩
      case round =>
        clear HR
        obtain ⟨j, m, rfl, haj, hji, hm, HM, HI⟩ := hrel
        have HN : Hid ((j ≤ a ∨ ltK (m.getD j default) (m.getD (j - 1) default) = false) → insOuter ltK a (b - (i + 1)) (i + 1) m = insSort ltK a b l0) := by
          intro hs
          rw [← HO.out, show b - i = (b - (i + 1)) + 1 by omega, insOuter, ← HI.out]
          congr 1
          cases j with
          | zero => rfl
          | succ j =>
            unfold insInner
            rw [if_neg]
            rintro ⟨h1, h2⟩
            rcases hs with h | h
            · omega
            · rw [Nat.add_sub_cancel] at h; rw [h] at h2; cases h2
        by_cases hja : a < j
        · obtain ⟨jp, hjp⟩ : ∃ q, q + 1 = j := ⟨j - 1, by omega⟩
          subst hjp
          have zj : ((jp + 1 : Nat) : Int) = (jp : Int) + 1 := by omega
          rw [zj]
          have hd : decide ((jp : Int) + 1 > (a : Int)) = true := decide_eq_true (by omega)
          have c1 := HM.out.1.cell (jp + 1) (by omega)
          have c2 := HM.out.1.cell jp (by omega)
          have hcmp := fun n => sortcmp_c (m.getD (jp + 1) default) (m.getD jp default) (HM.out.1.mem (by omega)) (HM.out.1.mem (by omega)) (wr.drewN n)
          have hlt0 := cmpK_lt (m.getD (jp + 1) default) (m.getD jp default)
          have HG : Hid (ltK (m.getD (jp + 1) default) (m.getD jp default) = true → insInner ltK a jp (swp m (jp + 1) jp) = insInner ltK a i l) := fun h => by
            rw [← HI.out]; rw [insInner]; rw [if_pos ⟨by omega, h⟩]
          rw [Nat.add_sub_cancel] at HN
          generalize hx : m.getD (jp + 1) default = x at c1 c2 hcmp hlt0 HN HG
          generalize hy : m.getD jp default = y at c1 c2 hcmp hlt0 HN HG
          have HX := Lib.hid hx
          have HY := Lib.hid hy
          clear hx hy
          have e1 : ((jp : Int) + 1).toNat = jp + 1 := by omega
          have e2 : (0 : Int) ≤ (jp : Int) + 1 := by omega
          have e3 : (jp : Int) + 1 < (l0.length : Int) := by omega
          have e4 : IntKind.i64.wrap ((jp : Int) + 1) = (jp : Int) + 1 := by rw [IntKind.wrap_i64]; omega
          have e5 : IntKind.i64.wrap (jp : Int) = (jp : Int) := by rw [IntKind.wrap_i64]; omega
          have e6 : (jp : Int) < (l0.length : Int) := by omega
          clear zj
          cases hlv : ltK x y with
          | true =>
            rw [hlv] at hlt0
            have HL := Lib.hid hlv
            clear hlv
            go_wp2_with fail
            go_quiet (first | (go_at_call 66; exact quiet_left (hcmp _)))
            have HM2 : Hid (SortW w0 g m (wr.drewN nq)) := HM.out.drewN nq
            clear c1 c2 hcmp HM
            generalize wr.drewN nq = w2 at HM2 ⊢
            go_wp2_with fail
            have c1 := HM2.out.1.cell (jp + 1) (by omega)
            have c2 := HM2.out.1.cell jp (by omega)
            have f1 := HM2.out.1.free (jp + 1) (by omega)
            have f2 := HM2.out.1.free jp (by omega)
            have HS3 := Lib.hid (HM2.out.swapped (jp + 1) jp (by omega) (by omega))
            rw [HX.out] at c1 HS3
            rw [HY.out] at c2 HS3
            obtain ⟨u, c3⟩ := HM2.out.cell2 (jp + 1) jp (by omega) (by omega) (.float .f64 y)
            clear HM2
            go_big_region
            clear c1 c2 c3 f1 f2
            generalize ((w2.setCell ⟨g, jp + 1, none⟩ (.float .f64 y)).setCell ⟨g, jp, none⟩ (.float .f64 x)).drew = w3 at HS3 ⊢
            go_wp2
            go_roundw
            case rel => exact ⟨jp, swp m (jp + 1) jp, by go_num, by omega, by omega, by rw [swp_length]; exact hm, HS3, HG.out HL.out⟩
            case measure => simp [intOf]
          | false =>
            rw [hlv] at hlt0
            have HL := Lib.hid hlv
            clear hlv
            go_wp2_with fail
            go_quiet (first | (go_at_call 66; exact quiet_left (hcmp _)))
            have HM2 : Hid (SortW w0 g m (wr.drewN nq)) := HM.out.drewN nq
            clear c1 c2 hcmp HM
            generalize wr.drewN nq = w2 at HM2 ⊢
            go_wp2
            go_roundw
            case rel => exact ⟨i + 1, m, by go_num, by omega, by omega, hm, HM2, HN.out (.inr HL.out)⟩
            case measure => simp [intOf]; omega
        · have hjaz : decide ((j : Int) > (a : Int)) = false := decide_eq_false (by omega)
          go_wp2_with fail
          go_quiet (fail)
          have HM2 : Hid (SortW w0 g m (wr.drewN nq)) := HM.out.drewN nq
          clear HM
          generalize wr.drewN nq = w2 at HM2 ⊢
          go_wp2
          go_roundw
          case rel => exact ⟨i + 1, m, by go_num, by omega, by omega, hm, HM2, HN.out (.inl (by omega))⟩
          case measure => simp [intOf]; omega
    · go_wp2
      go_end0
      have h0 : b - i = 0 := by omega
      have := HO.out
      rw [h0, insOuter] at this
      exact ⟨rfl, by rw [← this]; exact HR.out⟩
end Go.Proofs.Ytngjfeielpnnnaa
