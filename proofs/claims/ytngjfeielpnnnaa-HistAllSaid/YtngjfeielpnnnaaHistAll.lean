/-
  almonrylaw51.HistAll answers true: the walk.
-/
import Derived.Test.YtngjfeielpnnnaaHistMost
import Derived.Test.YtngjfeielpnnnaaHistList
namespace Go.Proofs.Ytngjfeielpnnnaa
open Go.RowKit
open FloatPlain
open Stable
set_option linter.unusedVariables false
set_option linter.unusedSimpArgs false
attribute [local go_sem] run_frombits run_bits u64_signed run_store_float

set_option maxHeartbeats 2000000 in
set_option maxRecDepth 100000 in
theorem all51_walk (A A2 : Option Addr) (n m c c2 : Nat) (xs ys : List Nat) (w : World) (h1 : RdU w w.heap.size A n xs) (hok : ∀ x ∈ xs, W64 x) (h2 : RdU w w.heap.size A2 m ys) (hok2 : ∀ x ∈ ys, W64 x) :
    Calls Try.prog 10 #[.slice A n c, .slice A2 m c2] w fun e w' => e = .returned (.bool true) ∧ Below w.heap.size w w' := by
  have haw := awake51_c
  by_cases hn : 60 < n
  · have hni : (60 : Int) < (n : Int) := by omega
    go_enter Try.func10, Try.ntmps10
    go_wp2_with (go_at_call 42; refine (haw _).mono ?_; rintro e w9 ⟨rfl, hb9⟩)
    go_ret
    exact ⟨rfl, hb9⟩
  · by_cases hm : 20 < m
    · have hd : decide ((60 : Int) < (n : Int)) = false := decide_eq_false (by omega)
      have hmi : (20 : Int) < (m : Int) := by omega
      go_enter Try.func10, Try.ntmps10
      go_wp2_with (go_at_call 42; refine (haw _).mono ?_; rintro e w9 ⟨rfl, hb9⟩)
      go_ret
      exact ⟨rfl, hb9⟩
    · have hd : decide ((60 : Int) < (n : Int)) = false := decide_eq_false (by omega)
      have hd2 : decide ((20 : Int) < (m : Int)) = false := decide_eq_false (by omega)
      have hl1 := fun c => list51_c A n c w.heap.size xs w h1 (Nat.le_refl _) (by omega)
      have hl2 := fun c w1 (hb : Below w.heap.size w w1) => list51_c A2 m c w.heap.size ys w1 (Reads.below h2 hb) hb.size (by omega)
      have hbx := fun A A2 c c2 B B2 w h1 hB h2 hB2 => boxes_c A A2 n m c c2 B B2 xs ys w h1 hB h2 hB2 hok hok2 (by omega) (by omega)
      have HL : Hid ((cntB (keysB ys) xs).length = m + 1) := by show _ = _; rw [cntB_length, keysB_length, h2.len]
      have HSUM : Hid ((cntB (keysB ys) xs).sum = n) := by show _ = _; rw [cntB_sum, h1.len]
      clear h1 h2 hok hok2
      generalize cntB (keysB ys) xs = C at *
      go_enter Try.func10, Try.ntmps10
      go_wp2_with fail
      refine (hl1 _).mono ?_
      rintro e w1 ⟨A3, c3, rfl, hr1, hb1⟩
      have HR1 := Lib.hid hr1
      have HB1 := Lib.hid hb1
      clear hr1 hb1 hl1
      go_wp2_with fail
      refine (hl2 _ _ HB1.out).mono ?_
      rintro e w2 ⟨A4, c4, rfl, hr2, hb2⟩
      have HR2 := Lib.hid hr2
      have HB2 := Lib.hid hb2
      clear hr2 hb2 hl2
      go_wp2_with fail
      refine (hbx _ _ _ _ _ _ _ (Reads.below HR1.out HB2.out) HB2.out.size HR2.out (Nat.le_refl _)).mono ?_
      rintro e w3 ⟨A5, c5, rfl, hr3, hb3⟩
      have HR3 := Lib.hid hr3
      have HB3 : Hid (Below w.heap.size w w3) := by
        have b2 : Below w.heap.size w w2 := HB1.out.trans (HB2.out.mono HB1.out.size)
        exact b2.trans (hb3.mono b2.size)
      clear hr3 hb3 hbx HR1 HR2 HB1 HB2
      go_wp2_with fail
      go_loopw [6, 7] (fun va vi wr => ∃ (k a : Nat), vi = .int .i64 k ∧ va = .int .i64 a ∧ k ≤ m + 1 ∧ wr = w3 ∧ Hid (a = (C.take k).sum)) (fun _ vi _ => m + 1 - (intOf vi).toNat)
      case atStart => exact ⟨0, 0, rfl, rfl, by omega, rfl, rfl⟩
      case round =>
        obtain ⟨k, a, rfl, rfl, hkm, rfl, HA⟩ := hrel
        by_cases hlt : k < m + 1
        · obtain ⟨ad, rfl, hc0⟩ := RdI.get HR3.out hlt
          have hsn := sum_next C k (m + 1) HL.out hlt
          have HA2 : Hid (a + C.getD k default = (C.take (k + 1)).sum) := by show _ = _; rw [hsn, HA.out]
          have hz : C.getD k default ≤ n := by rw [← HSUM.out]; exact getD_le_sum _ _
          have ha : a ≤ n := by
            have h1 : (C.take k ++ C.drop k).sum = n := by rw [List.take_append_drop]; exact HSUM.out
            rw [List.sum_append] at h1
            rw [HA.out]; omega
          clear hsn HA
          generalize C.getD k default = z at *
          have hneg : ¬ (z : Int) < 0 := by omega
          go_wp2_with fail
          go_roundw
          case rel => exact ⟨k + 1, a + z, by go_num, by go_num, by omega, trivial, HA2⟩
          case measure => simp [intOf]; omega
        · have hk : k = m + 1 := by omega
          subst hk
          have ha : a = n := by rw [HA.out, List.take_of_length_le (by rw [HL.out]; exact Nat.le_refl _)]; exact HSUM.out
          subst ha
          clear HA
          go_wp2_with (go_at_call 42; refine (haw _).mono ?_; rintro e w9 ⟨rfl, hb9⟩)
          go_ret
          exact ⟨rfl, HB3.out.trans (hb9.mono HB3.out.size)⟩
end Go.Proofs.Ytngjfeielpnnnaa
