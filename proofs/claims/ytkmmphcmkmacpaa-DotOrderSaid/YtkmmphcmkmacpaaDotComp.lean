/-
  slices.Compact at names.
-/
import Derived.Test.YtkmmphcmkmacpaaDotSort
import Derived.Test.YtkmmphcmkmacpaaOrd
import Derived.Laws.IdiomCopy
namespace Go.Proofs.Ytkmmphcmkmacpaa
open Go.RowKit
set_option linter.unusedVariables false
set_option linter.unusedSimpArgs false
attribute [local go_sem] eq_dot guard_dot
theorem neq_dot_run (w : World) (a1 a2 b1 b2 : Int) : (binOp .neq 23 (.agg #[.int .i64 a1, .int .i64 a2]) (.agg #[.int .i64 b1, .int .i64 b2])).run Try.prog w = .ok (.bool (!decide (a1 = b1 ∧ a2 = b2))) w := run_neq_dot w a1 a2 b1 b2

theorem RowD.get {w : World} {g : Nat} {l : List (Int × Int)} (h : RowD w g l) {k : Nat} (hk : k < l.length) {x : Int × Int} (hx : l.getD k default = x) :
    w.cell? ⟨g, k * 2, none⟩ = some (.int .i64 x.1) ∧ w.cell? ⟨g, k * 2 + 1, none⟩ = some (.int .i64 x.2) ∧ w.frozen? ⟨g, k * 2, none⟩ = false ∧ w.frozen? ⟨g, k * 2 + 1, none⟩ = false := by
  subst hx
  exact ⟨h.one k hk, h.two k hk, h.free _ (by omega), h.free _ (by omega)⟩
theorem getD_set_same {α : Type} (l : List α) (k : Nat) (x d : α) (h : k < l.length) : (l.set k x).getD k d = x := by simp [List.getD, h]
theorem getD_set_ne {α : Type} (l : List α) (k j : Nat) (x d : α) (h : k ≠ j) : (l.set k x).getD j d = l.getD j d := by simp [List.getD, List.getElem?_set_ne h]
theorem RowD.set {w : World} {g : Nat} {l : List (Int × Int)} (h : RowD w g l) {k : Nat} (hk : k < l.length) (x : Int × Int) :
    RowD ((w.setCell ⟨g, k * 2, none⟩ (.int .i64 x.1)).setCell ⟨g, k * 2 + 1, none⟩ (.int .i64 x.2)) g (l.set k x) := by
  refine ⟨by simpa [World.setCell] using h.lt, fun j hj => ?_, fun j hj => ?_, fun j hj => ?_⟩
  · rw [List.length_set] at hj
    rw [World.cell?_setCell_other _ _ _ _ (by intro e; injection e with _ e2; omega)]
    by_cases e : k = j
    · subst e; rw [getD_set_same _ _ _ _ hj]; exact World.cell?_setCell_same _ _ _ (h.one k hj)
    · rw [getD_set_ne _ _ _ _ _ e, World.cell?_setCell_other _ _ _ _ (by intro e; injection e with _ e2; omega)]; exact h.one j hj
  · rw [List.length_set] at hj
    by_cases e : k = j
    · subst e; rw [getD_set_same _ _ _ _ hj]
      exact World.cell?_setCell_same _ _ _ ((World.cell?_setCell_other _ _ _ _ (by intro e; injection e with _ e2; omega)).trans (h.two k hj))
    · rw [getD_set_ne _ _ _ _ _ e, World.cell?_setCell_other _ _ _ _ (by intro e; injection e with _ e2; omega), World.cell?_setCell_other _ _ _ _ (by intro e; injection e with _ e2; omega)]; exact h.two j hj
  · rw [List.length_set] at hj
    rw [World.frozen?_setCell, World.frozen?_setCell]; exact h.free j hj
theorem RowD.drewN {w : World} {g : Nat} {l : List (Int × Int)} (h : RowD w g l) (q : Nat) : RowD (w.drewN q) g l := ⟨h.lt, h.one, h.two, h.free⟩
theorem grown_drewN {w w' : World} {r : Option Nat} (h : w.grownBy w' r) (q : Nat) : w.grownBy (w'.drewN q) r := ⟨h.os, h.tape, h.output, h.size, h.block⟩
theorem grown_setCell {w w' : World} {g : Nat} (h : w.grownBy w' (some g)) (o : Nat) (u : Value) : w.grownBy (w'.setCell ⟨g, o, none⟩ u) (some g) :=
  ⟨h.os, h.tape, h.output, by simpa [World.setCell] using h.size, fun i hi hne => (Below.heap_setCell w' ⟨g, o, none⟩ u i (by rintro rfl; exact hne rfl)).trans (h.block i hi hne)⟩
theorem zero_dots (n : Nat) : ∀ v ∈ (Builtin.zeroCells #[Value.int .i64 0, .int .i64 0] n).toList, v = .int .i64 0 := by
  intro v hv
  simp [Builtin.zeroCells] at hv
  obtain ⟨a, ha, rfl⟩ := hv
  have : a % 2 = 0 ∨ a % 2 = 1 := by omega
  rcases this with e | e <;> rw [e] <;> rfl
theorem run_clear_dots (w : World) (ty : TypeId) (b o n c : Nat) (hn : 0 < n) (hc : ∀ j, j < n * 2 → (w.cell? ⟨b, o + j, none⟩).isSome = true) (hf : ∀ j, j < n * 2 → w.frozen? ⟨b, o + j, none⟩ = false) :
    (Builtin.clear_ #[27] ty #[.slice (some ⟨b, o, none⟩) n c]).run Try.prog w = .ok (.tuple #[]) (w.setCells b o (Builtin.zeroCells #[Value.int .i64 0, .int .i64 0] n).toList) := by
  have hv : ∀ w, (zeroValue 23).run Try.prog w = .ok (.agg #[.int .i64 0, .int .i64 0]) w := fun w => by kernel_rfl
  have hl : (Builtin.zeroCells #[Value.int .i64 0, .int .i64 0] n).toList.length = n * 2 := by simp [Builtin.zeroCells]
  have hst := run_storeCells_cells (P := Try.prog) b o (Builtin.zeroCells #[Value.int .i64 0, .int .i64 0] n).toList 0 w (by rw [hl]; simpa using hc) (by rw [hl]; simpa using hf) (by intro v hv'; rw [zero_dots n v hv']; rfl)
  simp only [Nat.add_zero] at hst
  obtain ⟨m, rfl⟩ : ∃ m, n = m + 1 := ⟨n - 1, by omega⟩
  have hcells : (Value.agg #[Value.int .i64 0, .int .i64 0]).cells = #[Value.int .i64 0, .int .i64 0] := rfl
  simp [Builtin.clear_, run_underlying sliceDot, hv, hcells, hst]
theorem grown_setCells {w : World} {g : Nat} : ∀ (vs : List Value) (o : Nat) (w' : World), w.grownBy w' (some g) → w.grownBy (w'.setCells g o vs) (some g) := by
  intro vs
  induction vs with
  | nil => intro o w' h; exact h
  | cons v vs ih => intro o w' h; exact ih _ _ (grown_setCell h o v)
theorem size_setCells (g : Nat) : ∀ (vs : List Value) (o : Nat) (w : World), (w.setCells g o vs).heap.size = w.heap.size := by
  intro vs
  induction vs with
  | nil => intro o w; rfl
  | cons v vs ih => intro o w; show ((w.setCell _ _).setCells _ _ _).heap.size = _; rw [ih]; simp [World.setCell]
/-- The first part of a row, whatever stands behind. -/
theorem RowD.cut {w : World} {g : Nat} {l : List (Int × Int)} (h : RowD w g l) (k : Nat) : RowD w g (l.take k) := by
  have e : ∀ j, j < (l.take k).length → (l.take k).getD j default = l.getD j default ∧ j < l.length := fun j hj => by
    rw [List.length_take] at hj
    refine ⟨?_, by omega⟩
    simp [List.getD, List.getElem?_take, show j < k by omega]
  exact ⟨h.lt, fun j hj => by rw [(e j hj).1]; exact h.one j (e j hj).2, fun j hj => by rw [(e j hj).1]; exact h.two j (e j hj).2, fun j hj => h.free j (by rw [List.length_take] at hj; omega)⟩
theorem RowD.clear {w : World} {g : Nat} {l : List (Int × Int)} (h : RowD w g l) (k : Nat) (hk : l.length ≤ k) (vs : List Value) : RowD (w.setCells g (k * 2) vs) g l := by
  have hc : ∀ j, j < l.length * 2 → (w.setCells g (k * 2) vs).cell? ⟨g, j, none⟩ = w.cell? ⟨g, j, none⟩ := fun j hj => World.cell?_setCells_out g vs (k * 2) w ⟨g, j, none⟩ (fun _ _ => .inl (by show j < k * 2; omega))
  exact ⟨by rw [size_setCells]; exact h.lt, fun j hj => by rw [hc _ (by omega)]; exact h.one j hj, fun j hj => by rw [hc _ (by omega)]; exact h.two j hj, fun j hj => by rw [World.frozen?_setCells]; exact h.free j hj⟩
theorem RowD.reads {w : World} {g : Nat} {l : List (Int × Int)} (h : RowD w g l) : RdD w w.heap.size (some ⟨g, 0, none⟩) l.length l := by
  refine ⟨flat_length l, fun hn => ⟨_, rfl, h.lt, fun j u hu => ?_⟩⟩
  have hj : j < l.length * 2 := by
    rcases Nat.lt_or_ge j (l.flatMap encD).length with g | g
    · rwa [flat_length] at g
    · rw [List.getElem?_eq_none g] at hu; cases hu
  rw [add_flat, Nat.zero_add]
  have hg := flat_get l (j / 2) (by omega)
  have hm : j % 2 = 0 ∨ j % 2 = 1 := by omega
  rcases hm with hm | hm
  · have e : j / 2 * 2 = j := by omega
    rw [e] at hg
    have := h.one (j / 2) (by omega)
    rw [e] at this
    rw [this, ← hg.1, hu]
  · have e : j / 2 * 2 + 1 = j := by omega
    rw [e] at hg
    have := h.two (j / 2) (by omega)
    rw [e] at this
    rw [this, ← hg.2, hu]

theorem take_nextC (xs : List (Int × Int)) (k n : Nat) (hn : xs.length = n) (hk : k < n) : xs.take (k + 1) = xs.take k ++ [xs.getD k default] := by
  rw [List.take_succ_eq_append_getElem (by omega)]; simp [List.getD, show k < xs.length by omega]
/-- How the row stands while it is made compact: the first kk are what is left of the first i. -/
structure CompI (l m : List (Int × Int)) (i kk : Nat) : Prop where
  size : m.length = l.length
  len : (compact (l.take i)).length = kk
  low : m.take kk = compact (l.take i)
  high : ∀ j, i ≤ j + 1 → j < l.length → m.getD j default = l.getD j default
  lt : kk < i
theorem take_get {l : List (Int × Int)} {i : Nat} (h : i < l.length) : l.take (i + 1) = l.take i ++ [l.getD i default] := take_nextC l i l.length rfl h
theorem last_take {l : List (Int × Int)} {i : Nat} (h : i ≤ l.length) (h0 : 0 < i) : (l.take i).getLast? = some (l.getD (i - 1) default) := by
  obtain ⟨k, rfl⟩ : ∃ k, i = k + 1 := ⟨i - 1, by omega⟩
  rw [take_get (by omega)]; simp
theorem compact_same {l : List (Int × Int)} {i : Nat} (h : i < l.length) (h0 : 0 < i) (he : l.getD i default = l.getD (i - 1) default) : compact (l.take (i + 1)) = compact (l.take i) := by
  rw [take_get h, compact_snoc]; unfold cpush
  rw [compact_last, last_take (by omega) h0, he, if_pos rfl]
theorem compact_more {l : List (Int × Int)} {i : Nat} (h : i < l.length) (h0 : 0 < i) (he : l.getD i default ≠ l.getD (i - 1) default) : compact (l.take (i + 1)) = compact (l.take i) ++ [l.getD i default] := by
  rw [take_get h, compact_snoc]; unfold cpush
  rw [compact_last, last_take (by omega) h0, if_neg (by intro e; injection e with e; exact he e.symm)]
theorem CompI.start {l : List (Int × Int)} {k : Nat} (hk : k < l.length) (h0 : 0 < k) (hc : compact (l.take k) = l.take k) (he : l.getD k default = l.getD (k - 1) default) : CompI l l (k + 1) k := by
  have e := compact_same hk h0 he
  rw [hc] at e
  exact ⟨rfl, by rw [e, List.length_take]; omega, e.symm, fun _ _ _ => rfl, by omega⟩
theorem CompI.skip {l m : List (Int × Int)} {i kk : Nat} (h : CompI l m i kk) (hi : i < l.length) (h0 : 0 < i) (he : l.getD i default = l.getD (i - 1) default) : CompI l m (i + 1) kk := by
  have e := compact_same hi h0 he
  exact ⟨h.size, by rw [e]; exact h.len, by rw [e]; exact h.low, fun j a b => h.high j (by omega) b, by have := h.lt; omega⟩
theorem CompI.keep {l m : List (Int × Int)} {i kk : Nat} (h : CompI l m i kk) (hi : i < l.length) (h0 : 0 < i) (he : l.getD i default ≠ l.getD (i - 1) default) : CompI l (m.set kk (l.getD i default)) (i + 1) (kk + 1) := by
  have e := compact_more hi h0 he
  have hlt := h.lt
  have hs := h.size
  refine ⟨by rw [List.length_set]; exact hs, by rw [e]; simp [h.len], ?_, fun j a b => ?_, by omega⟩
  · rw [e, take_nextC _ kk _ rfl (by rw [List.length_set]; omega), getD_set_same _ _ _ _ (by omega), ← h.low]
    congr 1
    rw [List.take_set_of_le (Nat.le_refl _)]
  · rw [getD_set_ne _ _ _ _ _ (by omega)]; exact h.high j (by omega) b
theorem ret_sl {A : Option Addr} {n m c : Nat} (h : n = m) : Ending.returned (.slice A n c) = .returned (.slice A m c) := by rw [h]

set_option maxHeartbeats 2000000 in
set_option maxRecDepth 100000 in
theorem compact_c (g n cap : Nat) (l : List (Int × Int)) (w : World) (hl : l.length = n) (hr : RowD w g l) (hn : n < 1000000) (hcap : n ≤ cap) :
    Calls Try.prog 114 #[.slice (some ⟨g, 0, none⟩) n cap] w fun e w' => e = .returned (.slice (some ⟨g, 0, none⟩) (compact l).length cap) ∧ RowD w' g (compact l) ∧ w.grownBy w' (some g) := by
  have HL := Lib.hid hl
  have HR := Lib.hid hr
  clear hl hr
  generalize hcm : compact l = cm
  have HC := Lib.hid hcm
  clear hcm
  by_cases h2 : n < 2
  · have HE : Hid (cm = l) := by
      show _ = _
      rw [← HC.out]
      have := HL.out
      match l, this with
      | [], _ => rfl
      | [a], _ => rfl
      | a :: b :: r, h => simp at h; omega
    go_enter Try.func114, Try.ntmps114
    go_wp2
    go_ret
    exact ⟨ret_sl (by rw [HE.out]; exact HL.out.symm), by rw [HE.out]; exact HR.out, World.grownBy.refl _ _⟩
  · have hd2 : decide ((n : Int) < 2) = false := decide_eq_false (by omega)
    go_enter Try.func114, Try.ntmps114
    go_wp2_with fail
    go_loopw [3] (fun vk wr => ∃ (k : Nat), vk = .int .i64 k ∧ 1 ≤ k ∧ k ≤ n ∧ Hid (∃ q, wr = w.drewN q) ∧ Hid (compact (l.take k) = l.take k)) (fun vk _ => n - (intOf vk).toNat)
    case atStart =>
      refine ⟨1, rfl, by omega, by omega, ⟨0, rfl⟩, ?_⟩
      show compact _ = _
      have := HL.out
      cases l with
      | nil => simp at this; omega
      | cons a r => rfl
    case round =>
      obtain ⟨k, rfl, hk1, hkn, HQ, HK⟩ := hrel
      by_cases hlt : k < n
      · obtain ⟨q, rfl⟩ := HQ.out
        have hew : IntKind.i64.wrap ((k : Int) - 1) = (k : Int) - 1 := by rw [IntKind.wrap_i64]; omega
        have hen : ((k : Int) - 1).toNat = k - 1 := by omega
        have hix : 0 ≤ IntKind.i64.wrap ((k : Int) - 1) ∧ IntKind.i64.wrap ((k : Int) - 1) < (n : Int) := by rw [hew]; omega
        have hiy : 0 ≤ ((k : Int) - 1) ∧ ((k : Int) - 1) < (n : Int) := by omega
        have hiz : 0 ≤ (k : Int) ∧ (k : Int) < (n : Int) := by omega
        generalize hx : l.getD k default = x
        generalize hy : l.getD (k - 1) default = y
        obtain ⟨c1, c2, _, _⟩ := HR.out.get (k := k) (by rw [HL.out]; exact hlt) hx
        obtain ⟨d1, d2, _, _⟩ := HR.out.get (k := k - 1) (by rw [HL.out]; omega) hy
        have f1 : w.cell? ⟨g, (IntKind.i64.wrap ((k : Int) - 1)).toNat * 2, none⟩ = some (.int .i64 y.1) := by rw [hew, hen]; exact d1
        have f2 : w.cell? ⟨g, (IntKind.i64.wrap ((k : Int) - 1)).toNat * 2 + 1, none⟩ = some (.int .i64 y.2) := by rw [hew, hen]; exact d2
        have HXY := Lib.hid (And.intro hx hy)
        clear hx hy hew hen d1 d2 HQ
        obtain ⟨x1, x2⟩ := x
        obtain ⟨y1, y2⟩ := y
        simp only at c1 c2 f1 f2
        by_cases hxy : x1 = y1 ∧ x2 = y2
        · obtain ⟨rfl, rfl⟩ := hxy
          have HI : Hid (CompI l l (k + 1) k) := CompI.start (by rw [HL.out]; exact hlt) (by omega) HK.out (by rw [HXY.out.1, HXY.out.2])
          clear HK HXY
          go_wp2_with fail
          go_quiet (fail)
          clear c1 c2 f1 f2 hix hiy hiz
          have hsl : (0 : Int) ≤ (k : Int) ∧ (k : Int) ≤ (n : Int) := by omega
          have HW : Hid (∀ q, w.grownBy (w.drewN q) (some g)) := fun q => grown_drewN (World.grownBy.refl w (some g)) q
          have HRW : Hid (∀ q, RowD (w.drewN q) g l) := fun q => HR.out.drewN q
          go_wp2_with fail
          go_loopw [3, 5] (fun v3 v5 wr => ∃ (kk k2 : Nat), v3 = .int .i64 kk ∧ v5 = .int .i64 k2 ∧ 1 ≤ k2 ∧ k + k2 ≤ n ∧ kk < k + k2 ∧ Hid (w.grownBy wr (some g)) ∧ Hid (∃ m, RowD wr g m ∧ CompI l m (k + k2) kk)) (fun _ v5 _ => n - (intOf v5).toNat)
          case atStart => exact ⟨k, 1, rfl, rfl, by omega, by omega, by omega, (by first | exact HW.out _ | (rw [World.drewN_drewN]; exact HW.out _)), (by first | exact ⟨l, HRW.out _, HI.out⟩ | (rw [World.drewN_drewN]; exact ⟨l, HRW.out _, HI.out⟩))⟩
          case round =>
            clear HW HRW HI
            obtain ⟨kk, k2, rfl, rfl, hk2, hkn2, hkk, HW, HM⟩ := hrel
            obtain ⟨m, hrm, hci⟩ := HM.out
            clear HM
            have HRM := Lib.hid hrm
            have HCI := Lib.hid hci
            clear hrm hci
            by_cases hlt2 : k + k2 < n
            · have hml : m.length = n := HCI.out.size.trans HL.out
              have hew : IntKind.i64.wrap ((k2 : Int) - 1) = (k2 : Int) - 1 := by rw [IntKind.wrap_i64]; omega
              have hen : ((k2 : Int) - 1).toNat = k2 - 1 := by omega
              have hix : 0 ≤ IntKind.i64.wrap ((k2 : Int) - 1) ∧ IntKind.i64.wrap ((k2 : Int) - 1) < ((n - k : Nat) : Int) := by rw [hew]; omega
              have hiy : 0 ≤ ((k2 : Int) - 1) ∧ ((k2 : Int) - 1) < ((n - k : Nat) : Int) := by omega
              have hiz : 0 ≤ (k2 : Int) ∧ (k2 : Int) < ((n - k : Nat) : Int) := by omega
              have hiw : 0 ≤ (kk : Int) ∧ (kk : Int) < (n : Int) := by omega
              have hix1 := hix.1
              have hix2 := hix.2
              have hnk : k2 < n - k := by omega
              generalize hx : l.getD (k + k2) default = x
              generalize hy : l.getD (k + k2 - 1) default = y
              obtain ⟨c1, c2, _, _⟩ := HRM.out.get (k := k + k2) (by omega) ((HCI.out.high (k + k2) (by omega) (by rw [HL.out]; omega)).trans hx)
              obtain ⟨d1, d2, _, _⟩ := HRM.out.get (k := k + k2 - 1) (by omega) ((HCI.out.high (k + k2 - 1) (by omega) (by rw [HL.out]; omega)).trans hy)
              obtain ⟨e1, e2, e3, e4⟩ := HRM.out.get (k := kk) (by omega) rfl
              have HXY := Lib.hid (And.intro hx hy)
              have f1 : wr.cell? ⟨g, k * 2 + (IntKind.i64.wrap ((k2 : Int) - 1)).toNat * 2, none⟩ = some (.int .i64 y.1) := by rw [hew, hen, show k * 2 + (k2 - 1) * 2 = (k + k2 - 1) * 2 by omega]; exact d1
              have f2 : wr.cell? ⟨g, k * 2 + (IntKind.i64.wrap ((k2 : Int) - 1)).toNat * 2 + 1, none⟩ = some (.int .i64 y.2) := by rw [hew, hen, show k * 2 + (k2 - 1) * 2 + 1 = (k + k2 - 1) * 2 + 1 by omega]; exact d2
              have g1 : wr.cell? ⟨g, k * 2 + k2 * 2, none⟩ = some (.int .i64 x.1) := by rw [show k * 2 + k2 * 2 = (k + k2) * 2 by omega]; exact c1
              have g2 : wr.cell? ⟨g, k * 2 + k2 * 2 + 1, none⟩ = some (.int .i64 x.2) := by rw [show k * 2 + k2 * 2 + 1 = (k + k2) * 2 + 1 by omega]; exact c2
              generalize m.getD kk default = z at e1 e2
              clear hx hy hew hen c1 c2 d1 d2 hml
              obtain ⟨x1, x2⟩ := x
              obtain ⟨y1, y2⟩ := y
              obtain ⟨z1, z2⟩ := z
              simp only at f1 f2 g1 g2 e1 e2
              by_cases hxy : x1 = y1 ∧ x2 = y2
              · obtain ⟨rfl, rfl⟩ := hxy
                have HM2 : Hid (∀ q, ∃ m, RowD (wr.drewN q) g m ∧ CompI l m (k + (k2 + 1)) kk) := fun q => ⟨m, HRM.out.drewN q, HCI.out.skip (by rw [HL.out]; exact hlt2) (by omega) (by rw [HXY.out.1, HXY.out.2])⟩
                have HW2 : Hid (∀ q, w.grownBy (wr.drewN q) (some g)) := fun q => grown_drewN HW.out q
                clear HCI HXY HRM HW
                go_wp2_with fail
                go_quiet (fail)
                clear f1 f2 g1 g2 e1 e2 e3 e4 hix hiy hiz hiw hix1 hix2
                go_wp2
                go_roundw
                case rel => exact ⟨kk, k2 + 1, rfl, by go_num, by omega, by omega, by omega, HW2.out _, HM2.out _⟩
                case measure => simp [intOf]; omega
              · have HM2 : Hid (∀ q, ∃ m', RowD (((wr.drewN q).setCell ⟨g, kk * 2, none⟩ (.int .i64 x1)).setCell ⟨g, kk * 2 + 1, none⟩ (.int .i64 x2)) g m' ∧ CompI l m' (k + (k2 + 1)) (kk + 1)) :=
                  fun q => ⟨_, (HRM.out.drewN q).set (by rw [HCI.out.size, HL.out]; omega) (x1, x2), by
                    have := HCI.out.keep (by rw [HL.out]; exact hlt2) (by omega) (by rw [HXY.out.1, HXY.out.2]; intro e; injection e with e1 e2; exact hxy ⟨e1, e2⟩)
                    rw [HXY.out.1] at this; exact this⟩
                have HW2 : Hid (∀ q, w.grownBy (((wr.drewN q).setCell ⟨g, kk * 2, none⟩ (.int .i64 x1)).setCell ⟨g, kk * 2 + 1, none⟩ (.int .i64 x2)) (some g)) := fun q => grown_setCell (grown_setCell (grown_drewN HW.out q) _ _) _ _
                clear HCI HXY HRM HW
                by_cases h1 : x1 = y1
                · have h2 : ¬ x2 = y2 := fun h2 => hxy ⟨h1, h2⟩
                  subst h1
                  clear hxy
                  go_wp2_with fail
                  go_quiet (fail)
                  go_wp2
                  go_roundw
                  case rel => exact ⟨kk + 1, k2 + 1, by go_num, by go_num, by omega, by omega, by omega, HW2.out _, HM2.out _⟩
                  case measure => simp [intOf]; omega
                · clear hxy
                  go_wp2_with fail
                  go_quiet (fail)
                  go_wp2
                  go_roundw
                  case rel => exact ⟨kk + 1, k2 + 1, by go_num, by go_num, by omega, by omega, by omega, HW2.out _, HM2.out _⟩
                  case measure => simp [intOf]; omega
            · have hkn3 : k + k2 = n := by omega
              have hml : m.length = n := HCI.out.size.trans HL.out
              have hcl : ∀ ty, (Builtin.clear_ #[27] ty #[.slice (some ⟨g, kk * 2, none⟩) (n - kk) (cap - kk)]).run Try.prog wr = .ok (.tuple #[]) (wr.setCells g (kk * 2) (Builtin.zeroCells #[Value.int .i64 0, .int .i64 0] (n - kk)).toList) := fun ty =>
                run_clear_dots wr ty g (kk * 2) (n - kk) (cap - kk) (by omega) (fun j hj => by
                  have hj2 : kk * 2 + j < n * 2 := by omega
                  generalize kk * 2 + j = i at hj2
                  have hm : i % 2 = 0 ∨ i % 2 = 1 := by omega
                  rcases hm with hm | hm
                  · have := HRM.out.one (i / 2) (by omega)
                    rw [show i / 2 * 2 = i by omega] at this; rw [this]; rfl
                  · have := HRM.out.two (i / 2) (by omega)
                    rw [show i / 2 * 2 + 1 = i by omega] at this; rw [this]; rfl) (fun j hj => HRM.out.free _ (by omega))
              have HCM : Hid (m.take kk = cm ∧ kk = cm.length) := by
                have h1 := HCI.out.low
                have h2 := HCI.out.len
                rw [hkn3, show l.take n = l from List.take_of_length_le (by rw [HL.out]; exact Nat.le_refl _), HC.out] at h1 h2
                exact ⟨h1, h2.symm⟩
              have HRW2 : Hid (RowD (wr.setCells g (kk * 2) (Builtin.zeroCells #[Value.int .i64 0, .int .i64 0] (n - kk)).toList) g (m.take kk)) := (HRM.out.cut kk).clear kk (by rw [List.length_take]; omega) _
              have HW2 : Hid (w.grownBy (wr.setCells g (kk * 2) (Builtin.zeroCells #[Value.int .i64 0, .int .i64 0] (n - kk)).toList) (some g)) := grown_setCells _ _ _ HW.out
              have hkk0 : 0 ≤ (kk : Int) ∧ (kk : Int) ≤ (n : Int) := by omega
              clear HCI HRM hkn3 hml HW
              generalize (Builtin.zeroCells #[Value.int .i64 0, .int .i64 0] (n - kk)).toList = zs at *
              go_wp2
              go_ret
              exact ⟨ret_sl HCM.out.2, by rw [← HCM.out.1]; exact HRW2.out, HW2.out⟩
        · have HK2 : Hid (compact (l.take (k + 1)) = l.take (k + 1)) := by
            show _ = _
            rw [compact_more (by rw [HL.out]; exact hlt) (by omega) (by rw [HXY.out.1, HXY.out.2]; intro e; injection e with e1 e2; exact hxy ⟨e1, e2⟩), HK.out, ← take_get (by rw [HL.out]; exact hlt)]
          clear HK HXY
          by_cases h1 : x1 = y1
          · have h2 : ¬ x2 = y2 := fun h2 => hxy ⟨h1, h2⟩
            subst h1
            clear hxy
            go_wp2_with fail
            go_quiet (fail)
            clear c1 c2 f1 f2
            go_wp2
            go_roundw
            case rel => exact ⟨k + 1, by go_num, by omega, by omega, ⟨_, rfl⟩, HK2⟩
            case measure => simp [intOf]; omega
          · clear hxy
            go_wp2_with fail
            go_quiet (fail)
            clear c1 c2 f1 f2
            go_wp2
            go_roundw
            case rel => exact ⟨k + 1, by go_num, by omega, by omega, ⟨_, rfl⟩, HK2⟩
            case measure => simp [intOf]; omega
      · have hk' : k = n := by omega
        have HE : Hid (cm = l) := by
          show _ = _
          rw [← HC.out]
          have := HK.out
          rwa [hk', List.take_of_length_le (by rw [HL.out]; exact Nat.le_refl _)] at this
        obtain ⟨q, rfl⟩ := HQ.out
        clear hk' HK HQ
        go_wp2
        go_ret
        exact ⟨ret_sl (by rw [HE.out]; exact HL.out.symm), by rw [HE.out]; exact HR.out.drewN q, grown_drewN (World.grownBy.refl _ _) q⟩
end Go.Proofs.Ytkmmphcmkmacpaa
