/-
  hist.Most; almonrylaw51.awake answers true.
-/
import Derived.Test.YtngjfeielpnnnaaHistBoxes
import Derived.Test.YtngjfeielpnnnaaStatAwake
namespace Go.Proofs.Ytngjfeielpnnnaa
open Go.RowKit
open FloatPlain
open Stable
set_option linter.unusedVariables false
set_option linter.unusedSimpArgs false
attribute [local go_sem] run_frombits run_bits u64_signed run_store_float

set_option maxHeartbeats 2000000 in
set_option maxRecDepth 100000 in
theorem most_c (A A2 : Option Addr) (n m c c2 B B2 : Nat) (xs ys : List Nat) (w : World) (h1 : RdF w B A n xs) (hB : B ≤ w.heap.size) (h2 : RdF w B2 A2 m ys) (hB2 : B2 ≤ w.heap.size) (hok : ∀ x ∈ xs, W64 x) (hok2 : ∀ x ∈ ys, W64 x) (hn : n < 1000000) (hm : m < 1000000) :
    Calls Try.prog 46 #[.slice A n c, .slice A2 m c2] w fun e w' => e = .returned (.tuple #[.int .i64 ((if n = 0 then 0 else mostF (cntB (keysB ys) xs) (m + 1) : Nat) : Int), .bool (decide (0 < n))]) ∧ Below w.heap.size w w' := by
  have hs := fun c c2 => boxes_c A A2 n m c c2 B B2 xs ys w h1 hB h2 hB2 hok hok2 hn hm
  have HL : Hid ((cntB (keysB ys) xs).length = m + 1) := by show _ = _; rw [cntB_length, keysB_length, h2.len]
  clear h1 h2 hB hB2 hok hok2
  generalize cntB (keysB ys) xs = C at *
  by_cases h0 : n = 0
  · subst h0
    rw [if_pos rfl, show decide (0 < 0) = false from rfl]
    go_enter Try.func46, Try.ntmps46
    go_wp2
    go_ret2
    exact ⟨ret_ib rfl rfl, Below.refl _ _⟩
  · rw [if_neg h0, show decide (0 < n) = true from decide_eq_true (by omega)]
    have h0' : ((n : Int) == 0) = false := by rw [beq_eq_false_iff_ne]; omega
    generalize hr : mostF C (m + 1) = r
    have HR := Lib.hid hr
    clear hr
    go_enter Try.func46, Try.ntmps46
    go_wp2_with fail
    refine (hs _ _).mono ?_
    rintro e w1 ⟨A1, c1, rfl, hr1, hb1⟩
    have HRD := Lib.hid hr1
    have HB := Lib.hid hb1
    clear hr1 hb1 hs
    go_wp2_with fail
    go_loopw [6, 18] (fun va vi wr => ∃ (k a : Nat), vi = .int .i64 k ∧ va = .int .i64 a ∧ k ≤ m + 1 ∧ a < m + 1 ∧ wr = w1 ∧ Hid (a = mostF C k)) (fun _ vi _ => m + 1 - (intOf vi).toNat)
    case atStart => exact ⟨0, 0, rfl, rfl, by omega, by omega, rfl, rfl⟩
    case round =>
      obtain ⟨k, a, rfl, rfl, hkm, ham, rfl, HA⟩ := hrel
      by_cases hlt : k < m + 1
      · obtain ⟨ad, rfl, hc0⟩ := RdI.get HRD.out hlt
        obtain ⟨ad', e', hc1⟩ := RdI.get HRD.out ham
        injection e' with e'; subst e'
        have HM : Hid (mostF C (k + 1) = if C.getD a default < C.getD k default then k else a) := by show _ = _; rw [HA.out]; rfl
        generalize C.getD k default = x at *
        generalize C.getD a default = y at *
        by_cases hxy : y < x
        · have hd : (x : Int) > (y : Int) := by omega
          have HM2 : Hid (k = mostF C (k + 1)) := by show _ = _; rw [HM.out, if_pos hxy]
          clear hxy HM HA
          go_wp2_with fail
          go_roundw
          case rel => exact ⟨k + 1, k, by go_num, rfl, by omega, by omega, trivial, HM2⟩
          case measure => simp [intOf]; omega
        · have hd : ¬ (x : Int) > (y : Int) := by omega
          have HM2 : Hid (a = mostF C (k + 1)) := by show _ = _; rw [HM.out, if_neg hxy]
          clear hxy HM HA
          go_wp2_with fail
          go_roundw
          case rel => exact ⟨k + 1, a, by go_num, rfl, by omega, by omega, trivial, HM2⟩
          case measure => simp [intOf]; omega
      · have hk : k = m + 1 := by omega
        subst hk
        have HE : Hid (a = r) := HA.out.trans HR.out
        clear HA
        go_wp2
        go_ret2
        exact ⟨ret_ib (congrArg _ HE.out) rfl, HB.out⟩

theorem rdp (w : World) (o : Obj) (d : Nat) : RdF ((w.alloc o).alloc (.cells #[.float .f64 d] 24)) (w.heap.size + 2) (some ⟨w.heap.size + 1, 0, none⟩) 1 [d] := by
  have h := rd1 (w.alloc o) d
  rw [World.size_alloc] at h
  exact h
theorem rd3p (w : World) (o : Obj) (a b c : Nat) : RdF ((w.alloc (.cells #[.float .f64 a, .float .f64 b, .float .f64 c] 24)).alloc o) (w.heap.size + 1) (some ⟨w.heap.size, 0, none⟩) 3 [a, b, c] := (rd3 w a b c).alloc (by simp) o
theorem rd2p (w : World) (o : Obj) (a b : Nat) : RdF ((w.alloc (.cells #[.float .f64 a, .float .f64 b] 24)).alloc o) (w.heap.size + 1) (some ⟨w.heap.size, 0, none⟩) 2 [a, b] := (rd2 w a b).alloc (by simp) o

set_option maxHeartbeats 2000000 in
set_option maxRecDepth 100000 in
theorem awake51_c (w : World) : Calls Try.prog 42 #[] w fun e w' => e = .returned (.bool true) ∧ Below w.heap.size w w' := by
  have p1 := fun w => boxes_c _ _ 3 1 3 1 _ _ [4607182418800017408, 4611686018427387904, 4613937818241073152] [4611686018427387904] _ (rd3p w _ _ _ _) (by simp) (rdp w _ _) (by simp) (by unfold W64; decide) (by unfold W64; decide) (by decide) (by decide)
  rw [show cntB (keysB [4611686018427387904]) [4607182418800017408, 4611686018427387904, 4613937818241073152] = [1, 2] by decide +kernel] at p1
  have p2 := fun w => boxes_c _ _ 2 1 2 1 _ _ [9223372036854775808, 0] [0] _ (rd2p w _ _ _) (by simp) (rdp w _ _) (by simp) (by unfold W64; decide) (by unfold W64; decide) (by decide) (by decide)
  rw [show cntB (keysB [0]) [9223372036854775808, 0] = [1, 1] by decide +kernel] at p2
  have p3 := fun w => most_c _ _ 3 1 3 1 _ _ [4607182418800017408, 4611686018427387904, 4613937818241073152] [4611686018427387904] _ (rd3p w _ _ _ _) (by simp) (rdp w _ _) (by simp) (by unfold W64; decide) (by unfold W64; decide) (by decide) (by decide)
  rw [show (if 3 = 0 then 0 else mostF (cntB (keysB [4611686018427387904]) [4607182418800017408, 4611686018427387904, 4613937818241073152]) (1 + 1)) = 1 by decide +kernel, show decide (0 < 3) = true by decide] at p3
  have p4 := fun w => most_c none _ 0 1 0 1 0 _ [] [4611686018427387904] _ Reads.none_ (by simp) (rd1 w _) (by simp) (by simp) (by unfold W64; decide) (by decide) (by decide)
  rw [if_pos rfl, show decide (0 < 0) = false by decide] at p4
  have p5 := fun w => boxes_c none none 0 0 0 0 0 0 [] [] w Reads.none_ (by simp) Reads.none_ (by simp) (by simp) (by simp) (by decide) (by decide)
  go_enter Try.func42, Try.ntmps42
  go_wp2_with fail
  refine (p1 _).mono ?_
  rintro e w1 ⟨A1, c1, rfl, hr1, hb1⟩
  have HR1 : Hid (RdI w1 w1.heap.size A1 2 [1, 2]) := hr1
  have HB1 : Hid (Below w.heap.size w w1) := ((((Below.refl _ _).alloc (Nat.le_refl _) _).alloc (by simp) _).trans (hb1.mono (by simp; omega)))
  clear hb1 hr1
  go_wp2_with fail
  refine (p2 _).mono ?_
  rintro e w2 ⟨A2, c2, rfl, hr2, hb2⟩
  have HR2 : Hid (RdI w2 w2.heap.size A2 2 [1, 1]) := hr2
  have HC2 : Hid (Below w1.heap.size w1 w2) := ((((Below.refl _ _).alloc (Nat.le_refl _) _).alloc (by simp) _).trans (hb2.mono (by simp; omega)))
  have HB2 : Hid (Below w.heap.size w w2) := HB1.out.trans (HC2.out.mono HB1.out.size)
  clear hb2 hr2
  go_wp2_with fail
  refine (p3 _).mono ?_
  rintro e w3 ⟨rfl, hb3⟩
  have HC3 : Hid (Below w2.heap.size w2 w3) := ((((Below.refl _ _).alloc (Nat.le_refl _) _).alloc (by simp) _).trans (hb3.mono (by simp; omega)))
  clear hb3
  go_wp2_with fail
  refine (p4 _).mono ?_
  rintro e w4 ⟨rfl, hb4⟩
  have HC4 : Hid (Below w3.heap.size w3 w4) := (((Below.refl _ _).alloc (Nat.le_refl _) _).trans (hb4.mono (by simp)))
  have HC5 : Hid (Below w2.heap.size w2 w4) := HC3.out.trans (HC4.out.mono HC3.out.size)
  have HB5 : Hid (Below w.heap.size w w4) := HB2.out.trans (HC5.out.mono HB2.out.size)
  clear hb4
  obtain ⟨ad2, rfl, d0⟩ := RdI.get ((Reads.below HR2.out HC5.out)) (k := 0) (by decide)
  obtain ⟨ad2', e', d1⟩ := RdI.get ((Reads.below HR2.out HC5.out)) (k := 1) (by decide)
  injection e' with e'; subst e'
  obtain ⟨ad1, rfl, c0⟩ := RdI.get (Reads.below (Reads.below HR1.out HC2.out) (HC5.out.mono HC2.out.size)) (k := 0) (by decide)
  obtain ⟨ad1', e', c1⟩ := RdI.get (Reads.below (Reads.below HR1.out HC2.out) (HC5.out.mono HC2.out.size)) (k := 1) (by decide)
  injection e' with e'; subst e'
  obtain ⟨b1, o1, s1⟩ := ad1
  have hspot : s1 = none := by simpa [Addr.add] using World.cell?_spot c0
  subst hspot
  obtain ⟨b2, o2, s2⟩ := ad2
  have hspot : s2 = none := by simpa [Addr.add] using World.cell?_spot d0
  subst hspot
  have c0' : w4.cell? ⟨b1, o1, none⟩ = some (.int .i64 1) := c0
  have c1' : w4.cell? ⟨b1, o1 + 1, none⟩ = some (.int .i64 2) := c1
  have d0' : w4.cell? ⟨b2, o2, none⟩ = some (.int .i64 1) := d0
  have d1' : w4.cell? ⟨b2, o2 + 1, none⟩ = some (.int .i64 1) := d1
  clear c0 c1 d0 d1
  go_wp2_with (first | (go_at_call 45; refine (p5 _).mono ?_; rintro e w5 ⟨A5, c5, rfl, hr5, hb5⟩))
  go_ret
  exact ⟨rfl, HB5.out.trans (hb5.mono HB5.out.size)⟩
end Go.Proofs.Ytngjfeielpnnnaa
