/-
  almonrylaw33.StatsTell and StatsTurned answer true: the walks.
-/
import Derived.Test.YtngjfeielpnnnaaStatAwake
import Derived.Test.YtngjfeielpnnnaaStatList
namespace Go.Proofs.Ytngjfeielpnnnaa
open Go.RowKit
open FloatPlain
open Stable
set_option linter.unusedVariables false
set_option linter.unusedSimpArgs false
attribute [local go_sem] run_frombits run_bits u64_signed run_store_float

set_option maxHeartbeats 2000000 in
set_option maxRecDepth 100000 in
theorem tell_walk (A : Option Addr) (n c : Nat) (p : Int) (xs : List Nat) (w : World) (h1 : RdU w w.heap.size A n xs) (hok : ∀ x ∈ xs, W64 x) :
    Calls Try.prog 5 #[.slice A n c, .int .i64 p] w fun e w' => e = .returned (.bool true) ∧ Below w.heap.size w w' := by
  have haw := awake33_c
  by_cases hn : 60 < n
  · have hni : (60 : Int) < (n : Int) := by omega
    go_enter Try.func5, Try.ntmps5
    go_wp2_with (go_at_call 23; refine (haw _).mono ?_; rintro e w9 ⟨rfl, hb9⟩)
    go_ret
    exact ⟨rfl, hb9⟩
  · have hls := fun c => list33_c A n c w.heap.size xs w h1 (Nat.le_refl _) (by omega)
    have hsm := fun x w => same_c x x w
    simp only [decide_true] at hsm
    have m0 := fun A c B w h hB => mean_c A n c B xs w h hB hok (by omega)
    have m1 := fun A c B w h hB => rmean_c A n c B xs w h hB hok (by omega)
    have m2 := fun A c B w h hB => part_c A n c B p xs w h hB hok (by omega)
    have m3 := fun A c B w h hB => rpart_c A n c B p xs w h hB hok (by omega)
    have m4 := fun A c B w h hB => spread_c A n c B xs w h hB hok (by omega)
    have m5 := fun A c B w h hB => rspread_c A n c B xs w h hB hok (by omega)
    have m6 := fun A c B w h hB => sum_c A n c B xs w h hB hok (by omega)
    have m7 := fun A c B w h hB => rsum_c A n c B xs w h hB hok (by omega)
    clear h1 hok
    generalize meanB xs = y0 at *
    generalize partB (srtF xs) p = y2 at *
    generalize spreadB (srtF xs) = y4 at *
    generalize sumB (srtF xs) = y6 at *
    generalize decide (0 < n) = z0 at *
    generalize partK n p = z2 at *
    have hz0 : (z0 == z0) = true := by cases z0 <;> rfl
    have hz2 : (z2 == z2) = true := by cases z2 <;> rfl
    go_enter Try.func5, Try.ntmps5
    go_wp2_with fail
    refine (hls _).mono ?_
    rintro e w0 ⟨A0, c0, rfl, hr, hb⟩
    have HR := Lib.hid hr
    have HB := Lib.hid hb
    have HB0 : Hid (Below w0.heap.size w0 w0) := Below.refl _ _
    clear hr hb hls
    go_wp2_with fail
    refine (m0 A0 _ w0.heap.size _ (Reads.below HR.out HB0.out) HB0.out.size).mono ?_
    rintro e w1 ⟨rfl, hb⟩
    have HB1 : Hid (Below w0.heap.size w0 w1) := HB0.out.trans (hb.mono HB0.out.size)
    clear hb m0 HB0
    go_wp2_with fail
    refine (m1 A0 _ w0.heap.size _ (Reads.below HR.out HB1.out) HB1.out.size).mono ?_
    rintro e w2 ⟨rfl, hb⟩
    have HB2 : Hid (Below w0.heap.size w0 w2) := HB1.out.trans (hb.mono HB1.out.size)
    clear hb m1 HB1
    go_wp2_with fail
    refine (m2 A0 _ w0.heap.size _ (Reads.below HR.out HB2.out) HB2.out.size).mono ?_
    rintro e w3 ⟨rfl, hb⟩
    have HB3 : Hid (Below w0.heap.size w0 w3) := HB2.out.trans (hb.mono HB2.out.size)
    clear hb m2 HB2
    go_wp2_with fail
    refine (m3 A0 _ w0.heap.size _ (Reads.below HR.out HB3.out) HB3.out.size).mono ?_
    rintro e w4 ⟨rfl, hb⟩
    have HB4 : Hid (Below w0.heap.size w0 w4) := HB3.out.trans (hb.mono HB3.out.size)
    clear hb m3 HB3
    go_wp2_with fail
    refine (m4 A0 _ w0.heap.size _ (Reads.below HR.out HB4.out) HB4.out.size).mono ?_
    rintro e w5 ⟨rfl, hb⟩
    have HB5 : Hid (Below w0.heap.size w0 w5) := HB4.out.trans (hb.mono HB4.out.size)
    clear hb m4 HB4
    go_wp2_with fail
    refine (m5 A0 _ w0.heap.size _ (Reads.below HR.out HB5.out) HB5.out.size).mono ?_
    rintro e w6 ⟨rfl, hb⟩
    have HB6 : Hid (Below w0.heap.size w0 w6) := HB5.out.trans (hb.mono HB5.out.size)
    clear hb m5 HB5
    go_wp2_with fail
    refine (m6 A0 _ w0.heap.size _ (Reads.below HR.out HB6.out) HB6.out.size).mono ?_
    rintro e w7 ⟨rfl, hb⟩
    have HB7 : Hid (Below w0.heap.size w0 w7) := HB6.out.trans (hb.mono HB6.out.size)
    clear hb m6 HB6
    go_wp2_with fail
    refine (m7 A0 _ w0.heap.size _ (Reads.below HR.out HB7.out) HB7.out.size).mono ?_
    rintro e w8 ⟨rfl, hb⟩
    have HB8 : Hid (Below w0.heap.size w0 w8) := HB7.out.trans (hb.mono HB7.out.size)
    clear hb m7 HB7
    go_wp2_with (first | (go_at_call 16; refine (hsm _ _).mono ?_; rintro e w' ⟨rfl, rfl⟩) | (go_at_call 23; refine (haw _).mono ?_; rintro e w9 ⟨rfl, hb9⟩))
    go_ret
    have b8 : Below w.heap.size w w8 := HB.out.trans (HB8.out.mono HB.out.size)
    exact ⟨rfl, b8.trans (hb9.mono b8.size)⟩

end Go.Proofs.Ytngjfeielpnnnaa
