/-
  The reference's Put: the same bytes as float.Put's.
-/
import Derived.Test.YtngjfeielpnnnaaFloatBytes
import Derived.Test.YtngjfeielpnnnaaMem2
namespace Go.Proofs.Ytngjfeielpnnnaa
open Go.RowKit
open FloatPlain
set_option linter.unusedVariables false
set_option linter.unusedSimpArgs false
attribute [local go_sem] run_frombits run_bits u64_signed

theorem info8 : (Try.prog.info? 5).map (fun i => (i.zero, i.size, i.bytes)) = some (some (.int .u8 0), 1, 1) := by kernel_rfl
theorem slice8 : Try.prog.underlying 84 = some (.slice 5) := by kernel_rfl

theorem conv_own (w : World) (base : Nat) (v : Value) (n : Nat) (xs : List Int) (hn : xs.length = n) (h0 : 0 < n) (hown : w.ownsRow base 5 1 v n (xs.map (Value.int .u8))) :
    (convert 84 9 v).run Try.prog w = .ok (.string (strOfNums xs)) w := by
  obtain ⟨g, cap, rfl, _, _⟩ := hown.form h0
  refine run_convert_bytes_arg (P := Try.prog) w 84 5 slice8 (by kernel_rfl) g 0 n cap xs hn ?_ 9 (by kernel_rfl)
  intro i hi
  rw [Nat.zero_add, World.ownsRow.cellAt hown i (by omega)]
  simp [List.getD, show i < xs.length by omega]

set_option maxHeartbeats 1000000 in
set_option maxRecDepth 100000 in
theorem rput_c (b : Nat) (w : World) : Calls Try.prog 40 #[.float .f64 b] w fun e w' => e = .returned (.string (strOfNums (be8 (rawB b)))) ∧ Below w.heap.size w w' := by
  have c := rbits_c b
  generalize rawB b = r at *
  go_enter Try.func40, Try.ntmps40
  go_wp2_with fail
  go_loopw [3, 4] (fun v vi wr => ∃ (k : Nat) (i : Int), vi = .int .i64 i ∧ i + k = 7 ∧ k ≤ 8 ∧ Hid (wr.ownsRow w.heap.size 5 1 v k (((be8 r).take k).map (Value.int .u8))) ∧ Hid (Below w.heap.size w wr)) (fun _ vi _ => (intOf vi + 1).toNat)
  case atStart => exact ⟨0, 7, rfl, by omega, by omega, World.ownsRow_nil _ _ _ _, Below.refl _ _⟩
  case round =>
    obtain ⟨k, i, rfl, hik, hk, HO, HB⟩ := hrel
    by_cases hlt : k < 8
    · have hk8 : k = 0 ∨ k = 1 ∨ k = 2 ∨ k = 3 ∨ k = 4 ∨ k = 5 ∨ k = 6 ∨ k = 7 := by omega
      have HN : Hid (∀ (u : Int) (v1 : Value) (w1 : World), (be8 r)[k]? = some u → w1.ownsRow w.heap.size 5 1 v1 (k + 1) (((be8 r).take k).map (Value.int .u8) ++ [.int .u8 u]) → w1.ownsRow w.heap.size 5 1 v1 (k + 1) (((be8 r).take (k + 1)).map (Value.int .u8))) := by
        intro u v1 w1 hu h
        rw [List.take_add_one, hu]
        simpa using h
      rcases hk8 with rfl | rfl | rfl | rfl | rfl | rfl | rfl | rfl
      · obtain rfl : i = 7 := by omega
        go_wp2_with (first | (go_at_call 68; refine (c _).mono ?_; rintro e w' ⟨rfl, rfl⟩) | (at_builtin; refine app_one slice8 info8 rfl (by decide) (.int .u8 _) rfl HO.out (by omega) HB.out.size rfl _ _ rfl rfl rfl ?_; intro v1 w1 ho1 hg1))
        have HO1 := Lib.hid (HN.out _ v1 w1 rfl ho1)
        have HB1 : Hid (Below w.heap.size w w1) := below_app HB.out HO.out (Nat.le_refl _) HB.out.size hg1
        clear ho1 hg1
        go_roundw
        case rel => exact ⟨1, 6, rfl, by omega, by omega, HO1, HB1⟩
        case measure => simp [intOf]
      · obtain rfl : i = 6 := by omega
        go_wp2_with (first | (go_at_call 68; refine (c _).mono ?_; rintro e w' ⟨rfl, rfl⟩) | (at_builtin; refine app_one slice8 info8 rfl (by decide) (.int .u8 _) rfl HO.out (by omega) HB.out.size rfl _ _ rfl rfl rfl ?_; intro v1 w1 ho1 hg1))
        have HO1 := Lib.hid (HN.out _ v1 w1 rfl ho1)
        have HB1 : Hid (Below w.heap.size w w1) := below_app HB.out HO.out (Nat.le_refl _) HB.out.size hg1
        clear ho1 hg1
        go_roundw
        case rel => exact ⟨2, 5, rfl, by omega, by omega, HO1, HB1⟩
        case measure => simp [intOf]
      · obtain rfl : i = 5 := by omega
        go_wp2_with (first | (go_at_call 68; refine (c _).mono ?_; rintro e w' ⟨rfl, rfl⟩) | (at_builtin; refine app_one slice8 info8 rfl (by decide) (.int .u8 _) rfl HO.out (by omega) HB.out.size rfl _ _ rfl rfl rfl ?_; intro v1 w1 ho1 hg1))
        have HO1 := Lib.hid (HN.out _ v1 w1 rfl ho1)
        have HB1 : Hid (Below w.heap.size w w1) := below_app HB.out HO.out (Nat.le_refl _) HB.out.size hg1
        clear ho1 hg1
        go_roundw
        case rel => exact ⟨3, 4, rfl, by omega, by omega, HO1, HB1⟩
        case measure => simp [intOf]
      · obtain rfl : i = 4 := by omega
        go_wp2_with (first | (go_at_call 68; refine (c _).mono ?_; rintro e w' ⟨rfl, rfl⟩) | (at_builtin; refine app_one slice8 info8 rfl (by decide) (.int .u8 _) rfl HO.out (by omega) HB.out.size rfl _ _ rfl rfl rfl ?_; intro v1 w1 ho1 hg1))
        have HO1 := Lib.hid (HN.out _ v1 w1 rfl ho1)
        have HB1 : Hid (Below w.heap.size w w1) := below_app HB.out HO.out (Nat.le_refl _) HB.out.size hg1
        clear ho1 hg1
        go_roundw
        case rel => exact ⟨4, 3, rfl, by omega, by omega, HO1, HB1⟩
        case measure => simp [intOf]
      · obtain rfl : i = 3 := by omega
        go_wp2_with (first | (go_at_call 68; refine (c _).mono ?_; rintro e w' ⟨rfl, rfl⟩) | (at_builtin; refine app_one slice8 info8 rfl (by decide) (.int .u8 _) rfl HO.out (by omega) HB.out.size rfl _ _ rfl rfl rfl ?_; intro v1 w1 ho1 hg1))
        have HO1 := Lib.hid (HN.out _ v1 w1 rfl ho1)
        have HB1 : Hid (Below w.heap.size w w1) := below_app HB.out HO.out (Nat.le_refl _) HB.out.size hg1
        clear ho1 hg1
        go_roundw
        case rel => exact ⟨5, 2, rfl, by omega, by omega, HO1, HB1⟩
        case measure => simp [intOf]
      · obtain rfl : i = 2 := by omega
        go_wp2_with (first | (go_at_call 68; refine (c _).mono ?_; rintro e w' ⟨rfl, rfl⟩) | (at_builtin; refine app_one slice8 info8 rfl (by decide) (.int .u8 _) rfl HO.out (by omega) HB.out.size rfl _ _ rfl rfl rfl ?_; intro v1 w1 ho1 hg1))
        have HO1 := Lib.hid (HN.out _ v1 w1 rfl ho1)
        have HB1 : Hid (Below w.heap.size w w1) := below_app HB.out HO.out (Nat.le_refl _) HB.out.size hg1
        clear ho1 hg1
        go_roundw
        case rel => exact ⟨6, 1, rfl, by omega, by omega, HO1, HB1⟩
        case measure => simp [intOf]
      · obtain rfl : i = 1 := by omega
        go_wp2_with (first | (go_at_call 68; refine (c _).mono ?_; rintro e w' ⟨rfl, rfl⟩) | (at_builtin; refine app_one slice8 info8 rfl (by decide) (.int .u8 _) rfl HO.out (by omega) HB.out.size rfl _ _ rfl rfl rfl ?_; intro v1 w1 ho1 hg1))
        have HO1 := Lib.hid (HN.out _ v1 w1 rfl ho1)
        have HB1 : Hid (Below w.heap.size w w1) := below_app HB.out HO.out (Nat.le_refl _) HB.out.size hg1
        clear ho1 hg1
        go_roundw
        case rel => exact ⟨7, 0, rfl, by omega, by omega, HO1, HB1⟩
        case measure => simp [intOf]
      · obtain rfl : i = 0 := by omega
        go_wp2_with (first | (go_at_call 68; refine (c _).mono ?_; rintro e w' ⟨rfl, rfl⟩) | (at_builtin; refine app_one slice8 info8 rfl (by decide) (.int .u8 _) rfl HO.out (by omega) HB.out.size rfl _ _ rfl rfl rfl ?_; intro v1 w1 ho1 hg1))
        have HO1 := Lib.hid (HN.out _ v1 w1 rfl ho1)
        have HB1 : Hid (Below w.heap.size w w1) := below_app HB.out HO.out (Nat.le_refl _) HB.out.size hg1
        clear ho1 hg1
        go_roundw
        case rel => exact ⟨8, -1, rfl, by omega, by omega, HO1, HB1⟩
        case measure => simp [intOf]
    · have hk8 : k = 8 := by omega
      subst hk8
      obtain rfl : i = -1 := by omega
      have hcv := conv_own wr w.heap.size _ 8 (be8 r) rfl (by decide) HO.out
      go_wp2
      go_ret
      exact ⟨rfl, HB.out⟩
end Go.Proofs.Ytngjfeielpnnnaa
