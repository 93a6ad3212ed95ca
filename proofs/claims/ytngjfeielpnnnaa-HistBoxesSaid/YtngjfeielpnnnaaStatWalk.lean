/-
  Contracts of package stats and of the reference's (almonryref33): Sum, Mean, Part, Spread.
-/
import Derived.Test.YtngjfeielpnnnaaStatPlain
import Derived.Test.YtngjfeielpnnnaaFloatSorts
namespace Go.Proofs.Ytngjfeielpnnnaa
open Go.RowKit
open FloatPlain
open Stable
set_option linter.unusedVariables false
set_option linter.unusedSimpArgs false
attribute [local go_sem] run_frombits run_bits u64_signed run_store_float run_add_f64 run_sub_f64 run_quo_f64

/-- The sorted clean numbers. -/
def srtF (xs : List Nat) : List Nat := ssort ltK (xs.map rawB)
theorem srtF_length (xs : List Nat) : (srtF xs).length = xs.length := by unfold srtF; rw [ssort_length, List.length_map]
theorem foldl_next (f : Nat → Nat → Nat) (S : List Nat) (k n : Nat) (hn : S.length = n) (hk : k < n) (a : Nat) : (S.take (k + 1)).foldl f a = f ((S.take k).foldl f a) (S.getD k default) := by
  rw [take_next S k n hn hk, List.foldl_append]; rfl

set_option maxHeartbeats 1000000 in
set_option maxRecDepth 100000 in
theorem sum_c (A : Option Addr) (n c B : Nat) (xs : List Nat) (w : World) (h1 : RdF w B A n xs) (hB : B ≤ w.heap.size) (hok : ∀ x ∈ xs, W64 x) (hn : n < 1152921504606) :
    Calls Try.prog 31 #[.slice A n c] w fun e w' => e = .returned (.float .f64 (sumB (srtF xs))) ∧ Below w.heap.size w w' := by
  have hs := fun c => sort_c A n c B xs w h1 hB hok hn
  have HX : Hid ((srtF xs).length = n) := (srtF_length xs).trans h1.len
  clear h1 hB hok
  change ∀ c, Calls _ _ _ _ (fun e w' => ∃ A' c', e = _ ∧ RdF w' w'.heap.size A' n (srtF xs) ∧ _) at hs
  generalize srtF xs = S at hs HX
  go_enter Try.func31, Try.ntmps31
  go_wp2_with fail
  refine (hs _).mono ?_
  rintro e w1 ⟨A1, c1, rfl, hr1, hb1⟩
  have HR := Lib.hid hr1
  have HB := Lib.hid hb1
  clear hr1 hb1 hs
  go_wp2_with fail
  go_loopw [3, 9] (fun vx vi wr => ∃ (k : Nat) (x : Nat), vi = .int .i64 k ∧ vx = .float .f64 x ∧ k ≤ n ∧ Hid (x = sumB (S.take k)) ∧ Hid (∃ q, wr = w1.drewN q)) (fun _ vi _ => n - (intOf vi).toNat)
  case atStart => exact ⟨0, 0, rfl, rfl, by omega, rfl, 0, rfl⟩
  case round =>
    obtain ⟨k, x, rfl, rfl, hkn, HE, HQ⟩ := hrel
    by_cases hlt : k < n
    · obtain ⟨q, rfl⟩ := HQ.out
      obtain ⟨ad, rfl, hc0⟩ := RdF.get (HR.out.drewN q) hlt
      have HT : Hid (rawB (arW .add x (S.getD k default) (w1.drewN q)) = sumB (S.take (k + 1))) := by
        show _ = _
        rw [arW_raw, HE.out]; unfold sumB; rw [foldl_next _ _ _ _ HX.out hlt]
      have hcl := clean_c (arW .add x (S.getD k default) (w1.drewN q))
      generalize rawB (arW .add x (S.getD k default) (w1.drewN q)) = z at *
      generalize S.getD k default = y at *
      clear HQ
      go_wp2_with (go_at_call 17; refine (hcl _).mono ?_; rintro e w' ⟨rfl, rfl⟩)
      go_roundw
      case rel => exact ⟨k + 1, _, by go_num, rfl, by omega, HT, _, by first | exact rfl | exact World.drewN_drewN _ _ _⟩
      case measure => simp [intOf]; omega
    · have hk : k = n := by omega
      subst hk
      have HE2 : Hid (x = sumB S) := by
        show _ = _
        rw [HE.out, List.take_of_length_le (by rw [HX.out]; exact Nat.le_refl _)]
      obtain ⟨q, rfl⟩ := HQ.out
      clear HE HQ
      go_wp2
      go_ret
      exact ⟨ret_f64 HE2.out, below_drewN HB.out q⟩

set_option maxHeartbeats 1000000 in
set_option maxRecDepth 100000 in
theorem rsum_c (A : Option Addr) (n c B : Nat) (xs : List Nat) (w : World) (h1 : RdF w B A n xs) (hB : B ≤ w.heap.size) (hok : ∀ x ∈ xs, W64 x) (hn : n < 1152921504606) :
    Calls Try.prog 32 #[.slice A n c] w fun e w' => e = .returned (.float .f64 (sumB (srtF xs))) ∧ Below w.heap.size w w' := by
  have hs := fun c => rsort_c A n c B xs w h1 hB hok hn
  have HX : Hid ((srtF xs).length = n) := (srtF_length xs).trans h1.len
  clear h1 hB hok
  change ∀ c, Calls _ _ _ _ (fun e w' => ∃ A' c', e = _ ∧ RdF w' w'.heap.size A' n (srtF xs) ∧ _) at hs
  generalize srtF xs = S at hs HX
  go_enter Try.func32, Try.ntmps32
  go_wp2_with fail
  refine (hs _).mono ?_
  rintro e w1 ⟨A1, c1, rfl, hr1, hb1⟩
  have HR := Lib.hid hr1
  have HB := Lib.hid hb1
  clear hr1 hb1 hs
  go_wp2_with fail
  go_loopw [4, 5] (fun vx vi wr => ∃ (k : Nat) (x : Nat), vi = .int .i64 k ∧ vx = .float .f64 x ∧ k ≤ n ∧ Hid (x = sumB (S.take k)) ∧ Hid (∃ q, wr = w1.drewN q)) (fun _ vi _ => n - (intOf vi).toNat)
  case atStart => exact ⟨0, 0, rfl, rfl, by omega, rfl, 0, rfl⟩
  case round =>
    obtain ⟨k, x, rfl, rfl, hkn, HE, HQ⟩ := hrel
    by_cases hlt : k < n
    · obtain ⟨q, rfl⟩ := HQ.out
      obtain ⟨ad, rfl, hc0⟩ := RdF.get (HR.out.drewN q) hlt
      have HT : Hid (rawB (arW .add x (S.getD k default) (w1.drewN q)) = sumB (S.take (k + 1))) := by
        show _ = _
        rw [arW_raw, HE.out]; unfold sumB; rw [foldl_next _ _ _ _ HX.out hlt]
      have hcl := rclean_c (arW .add x (S.getD k default) (w1.drewN q))
      generalize rawB (arW .add x (S.getD k default) (w1.drewN q)) = z at *
      generalize S.getD k default = y at *
      clear HQ
      go_wp2_with (go_at_call 41; refine (hcl _).mono ?_; rintro e w' ⟨rfl, rfl⟩)
      go_roundw
      case rel => exact ⟨k + 1, _, by go_num, rfl, by omega, HT, _, by first | exact rfl | exact World.drewN_drewN _ _ _⟩
      case measure => simp [intOf]; omega
    · have hk : k = n := by omega
      subst hk
      have HE2 : Hid (x = sumB S) := by
        show _ = _
        rw [HE.out, List.take_of_length_le (by rw [HX.out]; exact Nat.le_refl _)]
      obtain ⟨q, rfl⟩ := HQ.out
      clear HE HQ
      go_wp2
      go_ret
      exact ⟨ret_f64 HE2.out, below_drewN HB.out q⟩

theorem ret_pair {a b : Nat} {c d : Bool} (h : a = b) (h' : c = d) : Ending.returned (.tuple #[.float .f64 a, .bool c]) = .returned (.tuple #[.float .f64 b, .bool d]) := by rw [h, h']

/-- The mean. -/
def meanB (xs : List Nat) : Nat := if xs.length = 0 then 0 else arB .quo (sumB (srtF xs)) (floatOfInt .f64 (xs.length : Int))

set_option maxHeartbeats 1000000 in
set_option maxRecDepth 100000 in
theorem mean_c (A : Option Addr) (n c B : Nat) (xs : List Nat) (w : World) (h1 : RdF w B A n xs) (hB : B ≤ w.heap.size) (hok : ∀ x ∈ xs, W64 x) (hn : n < 1152921504606) :
    Calls Try.prog 25 #[.slice A n c] w fun e w' => e = .returned (.tuple #[.float .f64 (meanB xs), .bool (decide (0 < n))]) ∧ Below w.heap.size w w' := by
  have hs := fun c => sum_c A n c B xs w h1 hB hok hn
  have hm : meanB xs = if n = 0 then 0 else arB .quo (sumB (srtF xs)) (floatOfInt .f64 (n : Int)) := by unfold meanB; rw [h1.len]
  have HM := Lib.hid hm
  clear h1 hB hok hm
  generalize meanB xs = m at *
  generalize sumB (srtF xs) = S at *
  by_cases h0 : n = 0
  · subst h0
    go_enter Try.func25, Try.ntmps25
    go_wp2
    go_ret2
    exact ⟨ret_pair HM.out.symm rfl, Below.refl _ _⟩
  · have hp : decide (0 < n) = true := decide_eq_true (by omega)
    rw [hp]
    have HM2 : Hid (arB .quo S (floatOfInt .f64 (n : Int)) = m) := by show _ = _; rw [HM.out, if_neg h0]
    clear HM hp
    have hcl := clean_c
    go_enter Try.func25, Try.ntmps25
    go_wp2_with fail
    refine (hs _).mono ?_
    rintro e w1 ⟨rfl, hb1⟩
    have HB := Lib.hid hb1
    clear hb1 hs
    go_wp2_with fail
    refine (hcl _ _).mono ?_
    rintro e w' ⟨rfl, rfl⟩
    go_wp2
    go_ret2
    exact ⟨ret_pair (by rw [arW_raw]; exact HM2.out) rfl, below_drewN HB.out _⟩
set_option maxHeartbeats 1000000 in
set_option maxRecDepth 100000 in
theorem rmean_c (A : Option Addr) (n c B : Nat) (xs : List Nat) (w : World) (h1 : RdF w B A n xs) (hB : B ≤ w.heap.size) (hok : ∀ x ∈ xs, W64 x) (hn : n < 1152921504606) :
    Calls Try.prog 26 #[.slice A n c] w fun e w' => e = .returned (.tuple #[.float .f64 (meanB xs), .bool (decide (0 < n))]) ∧ Below w.heap.size w w' := by
  have hs := fun c => rsum_c A n c B xs w h1 hB hok hn
  have hm : meanB xs = if n = 0 then 0 else arB .quo (sumB (srtF xs)) (floatOfInt .f64 (n : Int)) := by unfold meanB; rw [h1.len]
  have HM := Lib.hid hm
  clear h1 hB hok hm
  generalize meanB xs = m at *
  generalize sumB (srtF xs) = S at *
  by_cases h0 : n = 0
  · subst h0
    go_enter Try.func26, Try.ntmps26
    go_wp2
    go_ret2
    exact ⟨ret_pair HM.out.symm rfl, Below.refl _ _⟩
  · have hp : decide (0 < n) = true := decide_eq_true (by omega)
    rw [hp]
    have HM2 : Hid (arB .quo S (floatOfInt .f64 (n : Int)) = m) := by show _ = _; rw [HM.out, if_neg h0]
    clear HM hp
    have hcl := rclean_c
    go_enter Try.func26, Try.ntmps26
    go_wp2_with fail
    refine (hs _).mono ?_
    rintro e w1 ⟨rfl, hb1⟩
    have HB := Lib.hid hb1
    clear hb1 hs
    go_wp2_with fail
    refine (hcl _ _).mono ?_
    rintro e w' ⟨rfl, rfl⟩
    go_wp2
    go_ret2
    exact ⟨ret_pair (by rw [arW_raw]; exact HM2.out) rfl, below_drewN HB.out _⟩

/-- The number at a place. -/
def partB (S : List Nat) (p : Int) : Nat := if S.length = 0 ∨ p < 0 ∨ 100 < p then 0 else S.getD ((p.toNat * (S.length - 1)) / 100) default
def partK (n : Nat) (p : Int) : Bool := !(decide (n = 0) || decide (p < 0) || decide (100 < p))


set_option maxHeartbeats 1000000 in
set_option maxRecDepth 100000 in
theorem part_main (A : Option Addr) (n c B k : Nat) (S : List Nat) (w : World) (hn : n < 1152921504606) (h0 : ¬ n = 0) (hk : k ≤ 100)
    (hs : ∀ c, Calls Try.prog 21 #[.slice A n c] w fun e w' => ∃ A' c', e = .returned (.slice A' n c') ∧ RdF w' w'.heap.size A' n S ∧ Below w.heap.size w w') :
    Calls Try.prog 27 #[.slice A n c, .int .i64 k] w fun e w' => e = .returned (.tuple #[.float .f64 (S.getD ((k * (n - 1)) / 100) default), .bool true]) ∧ Below w.heap.size w w' := by
  have hd : decide ((k : Int) < 0) = false := decide_eq_false (by omega)
  have hd2 : decide (100 < (k : Int)) = false := decide_eq_false (by omega)
  have h0' : ((n : Int) == 0) = false := by rw [beq_eq_false_iff_ne]; omega
  have hmul : k * (n - 1) ≤ 100 * (n - 1) := Nat.mul_le_mul_right _ (by omega)
  have he : (k : Int) * ((n - 1 : Nat) : Int) = ((k * (n - 1) : Nat) : Int) := by rw [Int.natCast_mul]
  have hq100 : k * (n - 1) / 100 < n := by omega
  have e3 : ((k * (n - 1) : Nat) : Int).tdiv 100 = ((k * (n - 1) / 100 : Nat) : Int) := by
    rw [Int.tdiv_eq_ediv_of_nonneg (by omega)]; omega
  have e4 : wrap64 ((wrap64 ((k : Int) * ((n : Int) - 1))).tdiv 100) = ((k * (n - 1) / 100 : Nat) : Int) := by rw [show ((n : Int) - 1) = ((n - 1 : Nat) : Int) by omega, he, show wrap64 ((k * (n - 1) : Nat) : Int) = ((k * (n - 1) : Nat) : Int) by unfold wrap64; omega, e3]; unfold wrap64; omega
  have hlo : 0 ≤ wrap64 ((wrap64 ((k : Int) * ((n : Int) - 1))).tdiv 100) ∧ wrap64 ((wrap64 ((k : Int) * ((n : Int) - 1))).tdiv 100) < (n : Int) := by rw [e4]; omega
  clear he e3
  generalize k * (n - 1) / 100 = j at *
  have E4 := Lib.hid e4
  clear e4
  generalize hy : S.getD j default = y
  have HY := Lib.hid hy
  clear hy
  go_enter Try.func27, Try.ntmps27
  go_wp2_with fail
  refine (hs _).mono ?_
  rintro e w1 ⟨A1, c1, rfl, hr1, hb1⟩
  have HB := Lib.hid hb1
  obtain ⟨ad, rfl, hc0⟩ := RdF.get hr1 hq100
  rw [HY.out] at hc0
  rw [show j = (wrap64 ((wrap64 ((k : Int) * ((n : Int) - 1))).tdiv 100)).toNat by rw [E4.out]; rfl] at hc0
  clear hr1 hb1 hs
  go_wp2
  go_ret2
  exact ⟨rfl, HB.out⟩

set_option maxHeartbeats 1000000 in
set_option maxRecDepth 100000 in
theorem part_c (A : Option Addr) (n c B : Nat) (p : Int) (xs : List Nat) (w : World) (h1 : RdF w B A n xs) (hB : B ≤ w.heap.size) (hok : ∀ x ∈ xs, W64 x) (hn : n < 1152921504606) :
    Calls Try.prog 27 #[.slice A n c, .int .i64 p] w fun e w' => e = .returned (.tuple #[.float .f64 (partB (srtF xs) p), .bool (partK n p)]) ∧ Below w.heap.size w w' := by
  have hs := fun c => sort_c A n c B xs w h1 hB hok hn
  have hX : (srtF xs).length = n := (srtF_length xs).trans h1.len
  have HX := Lib.hid hX
  clear h1 hB hok
  change ∀ c, Calls _ _ _ _ (fun e w' => ∃ A' c', e = _ ∧ RdF w' w'.heap.size A' n (srtF xs) ∧ _) at hs
  generalize srtF xs = S at hs HX hX
  have hm : partB S p = if n = 0 ∨ p < 0 ∨ 100 < p then 0 else S.getD ((p.toNat * (n - 1)) / 100) default := by unfold partB; rw [hX]
  generalize partB S p = m at *
  clear hX
  by_cases h0 : n = 0
  · subst h0
    have HM : Hid (0 = m) := by show _ = _; rw [hm, if_pos (.inl rfl)]
    have HK : Hid (false = partK 0 p) := by show _ = _; simp [partK]
    clear hm
    go_enter Try.func27, Try.ntmps27
    go_wp2
    go_ret2
    exact ⟨ret_pair HM.out HK.out, Below.refl _ _⟩
  · by_cases hp : p < 0
    · have HM : Hid (0 = m) := by show _ = _; rw [hm, if_pos (.inr (.inl hp))]
      have HK : Hid (false = partK n p) := by show _ = _; simp [partK, hp]
      have hd : decide (p < 0) = true := decide_eq_true hp
      have h0' : ((n : Int) == 0) = false := by rw [beq_eq_false_iff_ne]; omega
      clear hm
      go_enter Try.func27, Try.ntmps27
      go_wp2
      go_ret2
      exact ⟨ret_pair HM.out HK.out, Below.refl _ _⟩
    · by_cases hq : 100 < p
      · have HM : Hid (0 = m) := by show _ = _; rw [hm, if_pos (.inr (.inr hq))]
        have HK : Hid (false = partK n p) := by show _ = _; simp [partK, hq]
        have hd : decide (p < 0) = false := decide_eq_false hp
        have hd2 : decide (100 < p) = true := decide_eq_true hq
        have h0' : ((n : Int) == 0) = false := by rw [beq_eq_false_iff_ne]; omega
        clear hm
        go_enter Try.func27, Try.ntmps27
        go_wp2
        go_ret2
        exact ⟨ret_pair HM.out HK.out, Below.refl _ _⟩
      · obtain ⟨k, rfl⟩ : ∃ k : Nat, p = (k : Int) := ⟨p.toNat, by omega⟩
        have hm2 : S.getD ((k * (n - 1)) / 100) default = m := by rw [hm, if_neg (by omega)]; rw [Int.toNat_natCast]
        have hk2 : partK n (k : Int) = true := by simp [partK, h0, hp]; omega
        rw [hk2, ← hm2]
        exact part_main A n c B k S w hn h0 (by omega) hs

set_option maxHeartbeats 1000000 in
set_option maxRecDepth 100000 in
theorem rpart_main (A : Option Addr) (n c B k : Nat) (S : List Nat) (w : World) (hn : n < 1152921504606) (h0 : ¬ n = 0) (hk : k ≤ 100)
    (hs : ∀ c, Calls Try.prog 22 #[.slice A n c] w fun e w' => ∃ A' c', e = .returned (.slice A' n c') ∧ RdF w' w'.heap.size A' n S ∧ Below w.heap.size w w') :
    Calls Try.prog 28 #[.slice A n c, .int .i64 k] w fun e w' => e = .returned (.tuple #[.float .f64 (S.getD ((k * (n - 1)) / 100) default), .bool true]) ∧ Below w.heap.size w w' := by
  have hd : decide ((k : Int) < 0) = false := decide_eq_false (by omega)
  have hd2 : decide (100 < (k : Int)) = false := decide_eq_false (by omega)
  have h0' : ((n : Int) == 0) = false := by rw [beq_eq_false_iff_ne]; omega
  have hmul : k * (n - 1) ≤ 100 * (n - 1) := Nat.mul_le_mul_right _ (by omega)
  have he : (k : Int) * ((n - 1 : Nat) : Int) = ((k * (n - 1) : Nat) : Int) := by rw [Int.natCast_mul]
  have hq100 : k * (n - 1) / 100 < n := by omega
  have e3 : ((k * (n - 1) : Nat) : Int).tdiv 100 = ((k * (n - 1) / 100 : Nat) : Int) := by
    rw [Int.tdiv_eq_ediv_of_nonneg (by omega)]; omega
  have e4 : wrap64 ((wrap64 ((k : Int) * ((n : Int) - 1))).tdiv 100) = ((k * (n - 1) / 100 : Nat) : Int) := by rw [show ((n : Int) - 1) = ((n - 1 : Nat) : Int) by omega, he, show wrap64 ((k * (n - 1) : Nat) : Int) = ((k * (n - 1) : Nat) : Int) by unfold wrap64; omega, e3]; unfold wrap64; omega
  have hlo : 0 ≤ wrap64 ((wrap64 ((k : Int) * ((n : Int) - 1))).tdiv 100) ∧ wrap64 ((wrap64 ((k : Int) * ((n : Int) - 1))).tdiv 100) < (n : Int) := by rw [e4]; omega
  clear he e3
  generalize k * (n - 1) / 100 = j at *
  have E4 := Lib.hid e4
  clear e4
  generalize hy : S.getD j default = y
  have HY := Lib.hid hy
  clear hy
  go_enter Try.func28, Try.ntmps28
  go_wp2_with fail
  refine (hs _).mono ?_
  rintro e w1 ⟨A1, c1, rfl, hr1, hb1⟩
  have HB := Lib.hid hb1
  obtain ⟨ad, rfl, hc0⟩ := RdF.get hr1 hq100
  rw [HY.out] at hc0
  rw [show j = (wrap64 ((wrap64 ((k : Int) * ((n : Int) - 1))).tdiv 100)).toNat by rw [E4.out]; rfl] at hc0
  clear hr1 hb1 hs
  go_wp2
  go_ret2
  exact ⟨rfl, HB.out⟩

set_option maxHeartbeats 1000000 in
set_option maxRecDepth 100000 in
theorem rpart_c (A : Option Addr) (n c B : Nat) (p : Int) (xs : List Nat) (w : World) (h1 : RdF w B A n xs) (hB : B ≤ w.heap.size) (hok : ∀ x ∈ xs, W64 x) (hn : n < 1152921504606) :
    Calls Try.prog 28 #[.slice A n c, .int .i64 p] w fun e w' => e = .returned (.tuple #[.float .f64 (partB (srtF xs) p), .bool (partK n p)]) ∧ Below w.heap.size w w' := by
  have hs := fun c => rsort_c A n c B xs w h1 hB hok hn
  have hX : (srtF xs).length = n := (srtF_length xs).trans h1.len
  have HX := Lib.hid hX
  clear h1 hB hok
  change ∀ c, Calls _ _ _ _ (fun e w' => ∃ A' c', e = _ ∧ RdF w' w'.heap.size A' n (srtF xs) ∧ _) at hs
  generalize srtF xs = S at hs HX hX
  have hm : partB S p = if n = 0 ∨ p < 0 ∨ 100 < p then 0 else S.getD ((p.toNat * (n - 1)) / 100) default := by unfold partB; rw [hX]
  generalize partB S p = m at *
  clear hX
  by_cases h0 : n = 0
  · subst h0
    have HM : Hid (0 = m) := by show _ = _; rw [hm, if_pos (.inl rfl)]
    have HK : Hid (false = partK 0 p) := by show _ = _; simp [partK]
    clear hm
    go_enter Try.func28, Try.ntmps28
    go_wp2
    go_ret2
    exact ⟨ret_pair HM.out HK.out, Below.refl _ _⟩
  · by_cases hp : p < 0
    · have HM : Hid (0 = m) := by show _ = _; rw [hm, if_pos (.inr (.inl hp))]
      have HK : Hid (false = partK n p) := by show _ = _; simp [partK, hp]
      have hd : decide (p < 0) = true := decide_eq_true hp
      have h0' : ((n : Int) == 0) = false := by rw [beq_eq_false_iff_ne]; omega
      clear hm
      go_enter Try.func28, Try.ntmps28
      go_wp2
      go_ret2
      exact ⟨ret_pair HM.out HK.out, Below.refl _ _⟩
    · by_cases hq : 100 < p
      · have HM : Hid (0 = m) := by show _ = _; rw [hm, if_pos (.inr (.inr hq))]
        have HK : Hid (false = partK n p) := by show _ = _; simp [partK, hq]
        have hd : decide (p < 0) = false := decide_eq_false hp
        have hd2 : decide (100 < p) = true := decide_eq_true hq
        have h0' : ((n : Int) == 0) = false := by rw [beq_eq_false_iff_ne]; omega
        clear hm
        go_enter Try.func28, Try.ntmps28
        go_wp2
        go_ret2
        exact ⟨ret_pair HM.out HK.out, Below.refl _ _⟩
      · obtain ⟨k, rfl⟩ : ∃ k : Nat, p = (k : Int) := ⟨p.toNat, by omega⟩
        have hm2 : S.getD ((k * (n - 1)) / 100) default = m := by rw [hm, if_neg (by omega)]; rw [Int.toNat_natCast]
        have hk2 : partK n (k : Int) = true := by simp [partK, h0, hp]; omega
        rw [hk2, ← hm2]
        exact rpart_main A n c B k S w hn h0 (by omega) hs

/-- The greatest less the least. -/
def spreadB (S : List Nat) : Nat := if S.length = 0 then 0 else arB .sub (S.getD (S.length - 1) default) (S.getD 0 default)

set_option maxHeartbeats 1000000 in
set_option maxRecDepth 100000 in
theorem spread_c (A : Option Addr) (n c B : Nat) (xs : List Nat) (w : World) (h1 : RdF w B A n xs) (hB : B ≤ w.heap.size) (hok : ∀ x ∈ xs, W64 x) (hn : n < 1152921504606) :
    Calls Try.prog 29 #[.slice A n c] w fun e w' => e = .returned (.tuple #[.float .f64 (spreadB (srtF xs)), .bool (decide (0 < n))]) ∧ Below w.heap.size w w' := by
  have hs0 := fun c => part_c A n c B 0 xs w h1 hB hok hn
  have hs1 := fun c w1 (hb : Below w.heap.size w w1) => part_c A n c w.heap.size 100 xs w1 ((Reads.more h1 hB).below hb) hb.size hok hn
  have hX : (srtF xs).length = n := (srtF_length xs).trans h1.len
  clear h1 hB hok
  generalize srtF xs = S at *
  by_cases h0 : n = 0
  · subst h0
    have e0 : partK 0 0 = false := rfl
    have e1 : partB S 0 = 0 := by unfold partB; rw [if_pos (.inl hX)]
    have e2 : partB S 100 = 0 := by unfold partB; rw [if_pos (.inl hX)]
    have e3 : spreadB S = 0 := by unfold spreadB; rw [if_pos hX]
    have e4 : decide (0 < 0) = false := rfl
    have e5 : partK 0 100 = false := rfl
    rw [e3, e4]
    simp only [e0, e1, e2, e5] at hs0 hs1
    clear e0 e1 e2 e3 e4 e5 hX
    go_enter Try.func29, Try.ntmps29
    go_wp2_with fail
    refine (hs0 _).mono ?_
    rintro e w1 ⟨rfl, hb1⟩
    have HB1 := Lib.hid hb1
    clear hb1 hs0
    go_wp2_with fail
    refine (hs1 _ _ HB1.out).mono ?_
    rintro e w2 ⟨rfl, hb2⟩
    have HB2 := Lib.hid hb2
    clear hb2 hs1
    go_wp2
    go_ret2
    exact ⟨ret_pair rfl rfl, HB1.out.trans (HB2.out.mono HB1.out.size)⟩
  · have e0 : partK n 0 = true := by simp [partK, h0]
    have e5 : partK n 100 = true := by simp [partK, h0]
    have e1 : partB S 0 = S.getD 0 default := by unfold partB; rw [if_neg (by omega)]; simp
    have e2 : partB S 100 = S.getD (S.length - 1) default := by unfold partB; rw [if_neg (by omega)]; congr 1; show 100 * _ / 100 = _; omega
    have e3 : spreadB S = arB .sub (S.getD (S.length - 1) default) (S.getD 0 default) := by unfold spreadB; rw [if_neg (by omega)]
    have e4 : decide (0 < n) = true := decide_eq_true (by omega)
    rw [e3, e4]
    simp only [e0, e1, e2, e5] at hs0 hs1
    clear e0 e1 e2 e3 e4 e5 hX
    generalize S.getD 0 default = y at *
    generalize S.getD (S.length - 1) default = x at *
    have hcl := clean_c
    go_enter Try.func29, Try.ntmps29
    go_wp2_with fail
    refine (hs0 _).mono ?_
    rintro e w1 ⟨rfl, hb1⟩
    have HB1 := Lib.hid hb1
    clear hb1 hs0
    go_wp2_with fail
    refine (hs1 _ _ HB1.out).mono ?_
    rintro e w2 ⟨rfl, hb2⟩
    have HB2 := Lib.hid hb2
    clear hb2 hs1
    go_wp2_with fail
    refine (hcl _ _).mono ?_
    rintro e w' ⟨rfl, rfl⟩
    go_wp2
    go_ret2
    exact ⟨ret_pair (arW_raw _ _ _ _) rfl, below_drewN (HB1.out.trans (HB2.out.mono HB1.out.size)) _⟩
end Go.Proofs.Ytngjfeielpnnnaa
