/-
  The law's own examples (almonrylaw11.awake).
-/
import Derived.Test.YtkmmphcmkmacpaaDotRead2
import Derived.Test.YtkmmphcmkmacpaaDotSort2
namespace Go.Proofs.Ytkmmphcmkmacpaa
open Go.RowKit
set_option linter.unusedVariables false
set_option linter.unusedSimpArgs false

theorem ex_sort : sortK ltD [(1, 2), (0, 3), (1, 2)] = [(0, 3), (1, 2)] := by decide
theorem ex_put : putS [(0, 3), (1, 2)] = ⟨#[2, 0, 3, 1, 2]⟩ ∧ putE [(0, 3), (1, 2)] = 0 := ⟨by kernel_rfl, by kernel_rfl⟩
theorem ex_read : readD ⟨#[2, 0, 3, 1, 2]⟩ = ([(0, 3), (1, 2)], 0) := by kernel_rfl
theorem ex_put2 : putS [(1, 2), (0, 3)] = ⟨#[]⟩ ∧ putE [(1, 2), (0, 3)] = 5 := ⟨by kernel_rfl, by kernel_rfl⟩
theorem ex_read2 : readD ⟨#[1, 16, 1]⟩ = ([], 2) := by kernel_rfl
theorem ex_less : ltD (0, 9) (1, 1) = true := by decide

set_option maxHeartbeats 2000000 in
set_option maxRecDepth 100000 in
theorem awake11_c (w : World) : Calls Try.prog 43 #[] w fun e w' => e = .returned (.bool true) ∧ Below w.heap.size w w' := by
  go_enter Try.func43, Try.ntmps43
  go_wp2_with fail
  have hr0 : RdD (w.alloc (.cells #[.int .i64 1, .int .i64 2, .int .i64 0, .int .i64 3, .int .i64 1, .int .i64 2] 23)) (w.alloc (.cells #[.int .i64 1, .int .i64 2, .int .i64 0, .int .i64 3, .int .i64 1, .int .i64 2] 23)).heap.size (some ⟨w.heap.size, 0, none⟩) 3 [(1, 2), (0, 3), (1, 2)] :=
    reads_new w 2 3 [.int .i64 1, .int .i64 2, .int .i64 0, .int .i64 3, .int .i64 1, .int .i64 2] 23 rfl
  have hs1 := sort_c _ 3 3 _ _ _ hr0 (Nat.le_refl _) (by decide)
  rw [ex_sort] at hs1
  have HB0 : Hid (Below w.heap.size w (w.alloc (.cells #[.int .i64 1, .int .i64 2, .int .i64 0, .int .i64 3, .int .i64 1, .int .i64 2] 23))) := (Below.refl _ _).alloc (Nat.le_refl _) _
  refine hs1.mono ?_
  rintro e w1 ⟨⟨A1, m1, c1, rfl, hc1, hr1⟩, hb1⟩
  obtain rfl : 2 = m1 := hr1.len
  have HB1 := keepB hb1 HB0
  have HR1 := Lib.hid hr1
  have hp1 := put_c A1 2 c1 _ _ w1 hr1 (Nat.le_refl _) (by decide)
  rw [ex_put.1, ex_put.2] at hp1
  clear hr0 hs1 HB0 hb1 hr1 hc1
  go_wp2_with fail
  refine hp1.mono ?_
  rintro e w2 ⟨rfl, hb2⟩
  have HB2 := keepB hb2 HB1
  have HR2 : Hid (RdD w2 w1.heap.size A1 2 [(0, 3), (1, 2)]) := Reads.below HR1.out hb2
  have hre := read_c ⟨#[2, 0, 3, 1, 2]⟩ (by decide) w2
  rw [ex_read] at hre
  have HS2 : Hid (w1.heap.size ≤ w2.heap.size) := hb2.size
  clear hp1 HB1 hb2 HR1
  go_wp2_with fail
  refine hre.mono ?_
  rintro e w3 ⟨⟨A3, m3, c3, rfl, hc3, hr3⟩, hb3⟩
  obtain rfl : 2 = m3 := hr3.len
  have HB3 := keepB hb3 HB2
  have HR3 := Lib.hid hr3
  have HR3a : Hid (RdD w3 w3.heap.size A1 2 [(0, 3), (1, 2)]) := Reads.more (Reads.below (Reads.more HR2.out HS2.out) hb3) hb3.size
  clear hre HB2 HR2 HS2 hb3 hr3 hc3
  go_wp2_with fail
  have hr4 : RdD (w3.alloc (.cells #[.int .i64 1, .int .i64 2, .int .i64 0, .int .i64 3] 23)) (w3.alloc (.cells #[.int .i64 1, .int .i64 2, .int .i64 0, .int .i64 3] 23)).heap.size (some ⟨w3.heap.size, 0, none⟩) 2 [(1, 2), (0, 3)] :=
    reads_new w3 2 2 [.int .i64 1, .int .i64 2, .int .i64 0, .int .i64 3] 23 rfl
  have hp4 := put_c _ 2 2 _ _ _ hr4 (Nat.le_refl _) (by decide)
  rw [ex_put2.1, ex_put2.2] at hp4
  have hba : Below w3.heap.size w3 (w3.alloc (.cells #[.int .i64 1, .int .i64 2, .int .i64 0, .int .i64 3] 23)) := (Below.refl _ _).alloc (Nat.le_refl _) _
  refine hp4.mono ?_
  rintro e w4 ⟨rfl, hb4⟩
  have hb4' : Below w3.heap.size w3 w4 := hba.trans (hb4.mono hba.size)
  have HB4 := keepB hb4' HB3
  have HR4 : Hid (RdD w4 w4.heap.size A3 2 [(0, 3), (1, 2)]) := Reads.more (Reads.below HR3.out hb4') hb4'.size
  have HR4a : Hid (RdD w4 w4.heap.size A1 2 [(0, 3), (1, 2)]) := Reads.more (Reads.below HR3a.out hb4') hb4'.size
  have hre5 := read_c ⟨#[1, 16, 1]⟩ (by decide) w4
  rw [ex_read2] at hre5
  clear hr4 hp4 hba hb4 hb4' HB3 HR3 HR3a
  go_wp2_with fail
  refine hre5.mono ?_
  rintro e w5 ⟨⟨A5, m5, c5, rfl, hc5, hr5⟩, hb5⟩
  have HB5 := keepB hb5 HB4
  have HR5 : Hid (RdD w5 w5.heap.size A3 2 [(0, 3), (1, 2)]) := Reads.more (Reads.below HR4.out hb5) hb5.size
  have HR5a : Hid (RdD w5 w5.heap.size A1 2 [(0, 3), (1, 2)]) := Reads.more (Reads.below HR4a.out hb5) hb5.size
  clear hre5 hb5 HB4 HR4 HR4a hr5 hc5
  go_wp2_with fail
  have hr6 : RdD (w5.alloc (.cells #[.int .i64 0, .int .i64 3, .int .i64 1, .int .i64 2] 23)) (w5.alloc (.cells #[.int .i64 0, .int .i64 3, .int .i64 1, .int .i64 2] 23)).heap.size (some ⟨w5.heap.size, 0, none⟩) 2 [(0, 3), (1, 2)] :=
    reads_new w5 2 2 [.int .i64 0, .int .i64 3, .int .i64 1, .int .i64 2] 23 rfl
  have hba : Below w5.heap.size w5 (w5.alloc (.cells #[.int .i64 0, .int .i64 3, .int .i64 1, .int .i64 2] 23)) := (Below.refl _ _).alloc (Nat.le_refl _) _
  have hsm := rsame_c A1 (some ⟨w5.heap.size, 0, none⟩) 2 2 c1 2 _ _ _ _ _ (Reads.below HR5a.out hba) hr6 (by decide) (by decide)
  rw [decide_eq_true rfl] at hsm
  have HB6 := keepB hba HB5
  have HR6 : Hid (RdD _ _ A3 2 [(0, 3), (1, 2)]) := Reads.below HR5.out hba
  have HR6a : Hid (RdD _ _ A1 2 [(0, 3), (1, 2)]) := Reads.below HR5a.out hba
  refine hsm.mono ?_
  rintro e w6 ⟨rfl, q, rfl⟩
  clear hsm hr6 hba HB5 HR5 HR5a
  go_wp2_with fail
  have hsm2 := rsame_c A3 A1 2 2 c3 c1 _ _ _ _ _ (Reads.drewN HR6.out q) (Reads.drewN HR6a.out q) (by decide) (by decide)
  rw [decide_eq_true rfl] at hsm2
  refine hsm2.mono ?_
  rintro e w7 ⟨rfl, q2, rfl⟩
  clear hsm2
  go_wp2_with fail
  have hls := fun W => less_c (0, 9) (1, 1) W
  rw [ex_less] at hls
  refine (hls _).mono ?_
  rintro e w8 ⟨rfl, hb8⟩
  go_wp2
  go_ret
  exact ⟨rfl, (keepB hb8 (w := w) (by first | exact below_drewN HB6.out _ | exact below_drewN (below_drewN HB6.out q) q2 | (trace_state; exact HB6))).out⟩
end Go.Proofs.Ytkmmphcmkmacpaa
