/-
  wire.Num and the reference's Num, whole.
-/
import Derived.Test.YtkmmphcmkmacpaaWireNum
import Derived.Laws.Concat
namespace Go.Proofs.Ytkmmphcmkmacpaa
open Go.RowKit
set_option linter.unusedVariables false
set_option linter.unusedSimpArgs false

theorem str_append (xs ys : List Int) : strOfNums xs ++ strOfNums ys = strOfNums (xs ++ ys) := by
  unfold strOfNums; rw [ByteArray.mk_append_mk]; simp
theorem conv1 (w : World) (x : Int) : (convert 172 9 (.slice (some ⟨w.heap.size, 0, none⟩) 1 1)).run Try.prog (w.alloc (.cells #[.int .u8 x] 5)) = .ok (.string (strOfNums [x])) (w.alloc (.cells #[.int .u8 x] 5)) := by
  refine run_convert_bytes_arg (P := Try.prog) _ 172 5 slice8 (by kernel_rfl) w.heap.size 0 1 1 [x] rfl ?_ 9 (by kernel_rfl)
  intro i hi
  obtain rfl : i = 0 := by omega
  simp

theorem pow_start (n : Nat) (h : (n : Int) ≤ 9007199254740992) : n < 128 ^ (20 - 0) := by
  have : (128 : Nat) ^ (20 - 0) = 1393796574908163946345982392040522594123776 := by decide
  omega

set_option maxHeartbeats 1000000 in
set_option maxRecDepth 100000 in
theorem num_c (n : Int) (w : World) : Calls Try.prog 68 #[.int .i64 n] w fun e w' => e = .returned (.tuple #[.string (numS n), .int .i64 (numE n)]) ∧ Below w.heap.size w w' := by
  by_cases h : n < 0
  · have h1 : numS n = ⟨#[]⟩ := by unfold numS; rw [if_pos (.inl h)]
    have h2 : numE n = 2 := by unfold numE; rw [if_pos (.inl h)]
    rw [h1, h2]; clear h1 h2
    have hd : decide (n < 0) = true := decide_eq_true h
    go_enter Try.func68, Try.ntmps68
    go_wp2
    go_step3
    go_wp2
    try rw [Exit.noGoto_ret]
    go_ret2
    exact ⟨rfl, Below.refl _ _⟩
  · by_cases h' : 9007199254740992 < n
    · have h1 : numS n = ⟨#[]⟩ := by unfold numS; rw [if_pos (.inr h')]
      have h2 : numE n = 2 := by unfold numE; rw [if_pos (.inr h')]
      rw [h1, h2]; clear h1 h2
      have hd : decide (n < 0) = false := decide_eq_false h
      have hd2 : decide (n > 9007199254740992) = true := decide_eq_true h'
      go_enter Try.func68, Try.ntmps68
      go_wp2
      go_step3
      go_wp2
      try rw [Exit.noGoto_ret]
      go_ret2
      exact ⟨rfl, Below.refl _ _⟩
    · obtain ⟨m, rfl⟩ : ∃ m : Nat, n = (m : Int) := ⟨n.toNat, by omega⟩
      have h1 : numS (m : Int) = strOfNums (putN m) := by unfold numS; rw [if_neg (by omega), Int.toNat_natCast]
      have h2 : numE (m : Int) = 0 := by unfold numE; rw [if_neg (by omega)]
      rw [h1, h2]
      exact num_ok m (by omega) w

set_option maxHeartbeats 1000000 in
set_option maxRecDepth 100000 in
theorem rnum_ok (n : Nat) (hn : (n : Int) ≤ 9007199254740992) (w : World) : Calls Try.prog 71 #[.int .i64 n] w fun e w' => e = .returned (.tuple #[.string (strOfNums (putN n)), .int .i64 0]) ∧ Below w.heap.size w w' := by
  have hd : decide ((n : Int) < 0) = false := decide_eq_false (by omega)
  have hd2 : decide ((n : Int) > 9007199254740992) = false := decide_eq_false (by omega)
  generalize hsn : strOfNums (putN n) = sn
  have HSN := Lib.hid hsn
  clear hsn
  go_enter Try.func71, Try.ntmps71
  go_wp2_with fail
  go_loopw [0, 4] (fun vm vs wr => ∃ (m k : Nat) (bs : List Int), vm = .int .i64 m ∧ vs = .string (strOfNums bs) ∧ (m : Int) ≤ 9007199254740992 ∧ k ≤ 20 ∧ Hid (m < 128 ^ (20 - k)) ∧ Hid (bs ++ putN m = putN n) ∧ Hid (bs.length = k) ∧ Hid (Below w.heap.size w wr)) (fun vm _ _ => (intOf vm).toNat)
  case atStart => exact ⟨n, 0, [], rfl, rfl, hn, by omega, pow_start n hn, rfl, rfl, Below.refl _ _⟩
  case round =>
    obtain ⟨m, k, bs, rfl, rfl, hm, hk, HP, HE, HL, HB⟩ := hrel
    clear hd hd2
    by_cases hlt : m < 128
    · have hlt' : ¬ (m : Int) ≥ 128 := by omega
      have hc := conv1 wr (m : Int)
      have hadd := fun w => run_string_add_sum (P := Try.prog) w (strOfNums bs) (strOfNums [(m : Int)]) (by rw [strOfNums_size, strOfNums_size, HL.out]; simp; omega)
      rw [str_append, ← putN_small hlt, HE.out, HSN.out, putN_small hlt] at hadd
      clear HE HP hn
      generalize strOfNums bs = sb at *
      go_wp2_with fail
      go_ret2
      exact ⟨rfl, HB.out.alloc HB.out.size _⟩
    · have hlt' : (m : Int) ≥ 128 := by omega
      have hk20 : k < 20 := by
        rcases Nat.lt_or_ge k 20 with h | h
        · exact h
        · obtain rfl : k = 20 := by omega
          have := HP.out
          simp at this; omega
      have hc := conv1 wr ((m : Int) % 128 + 128)
      have hadd := fun w => run_string_add_sum (P := Try.prog) w (strOfNums bs) (strOfNums [(m : Int) % 128 + 128]) (by rw [strOfNums_size, strOfNums_size, HL.out]; simp; omega)
      have hst := putN_step hlt
      have HE2 : Hid (bs ++ [(m : Int) % 128 + 128] ++ putN (m / 128) = putN n) := by
        show _ = _
        rw [← HE.out, hst]; simp
      have HP2 : Hid (m / 128 < 128 ^ (20 - (k + 1))) := by
        have hpow := HP.out
        have h2 : (128 : Nat) ^ (20 - k) = 128 ^ (20 - (k + 1)) * 128 := by rw [← Nat.pow_succ]; congr 1; omega
        rw [h2] at hpow
        show _ < _
        omega
      have HL2 : Hid ((bs ++ [(m : Int) % 128 + 128]).length = k + 1) := by show _ = _; rw [List.length_append, HL.out]; rfl
      rw [str_append] at hadd
      have HQ : Hid ((m : Int) / 128 = ((m / 128 : Nat) : Int)) := by show _ = _; omega
      clear hst HE HP HL hn
      generalize bs ++ [(m : Int) % 128 + 128] = bs2 at *
      go_wp2_with fail
      go_roundw
      case rel => exact ⟨m / 128, k + 1, bs2, congrArg _ HQ.out, rfl, by omega, by omega, HP2, HE2, HL2, HB.out.alloc HB.out.size _⟩
      case measure => simp [intOf]; omega

set_option maxHeartbeats 1000000 in
set_option maxRecDepth 100000 in
theorem rnum_c (n : Int) (w : World) : Calls Try.prog 71 #[.int .i64 n] w fun e w' => e = .returned (.tuple #[.string (numS n), .int .i64 (numE n)]) ∧ Below w.heap.size w w' := by
  by_cases h : n < 0
  · have h1 : numS n = ⟨#[]⟩ := by unfold numS; rw [if_pos (.inl h)]
    have h2 : numE n = 2 := by unfold numE; rw [if_pos (.inl h)]
    rw [h1, h2]; clear h1 h2
    have hd : decide (n < 0) = true := decide_eq_true h
    go_enter Try.func71, Try.ntmps71
    go_wp2
    go_ret2
    exact ⟨rfl, Below.refl _ _⟩
  · by_cases h' : 9007199254740992 < n
    · have h1 : numS n = ⟨#[]⟩ := by unfold numS; rw [if_pos (.inr h')]
      have h2 : numE n = 2 := by unfold numE; rw [if_pos (.inr h')]
      rw [h1, h2]; clear h1 h2
      have hd : decide (n < 0) = false := decide_eq_false h
      have hd2 : decide (n > 9007199254740992) = true := decide_eq_true h'
      go_enter Try.func71, Try.ntmps71
      go_wp2
      go_ret2
      exact ⟨rfl, Below.refl _ _⟩
    · obtain ⟨m, rfl⟩ : ∃ m : Nat, n = (m : Int) := ⟨n.toNat, by omega⟩
      have h1 : numS (m : Int) = strOfNums (putN m) := by unfold numS; rw [if_neg (by omega), Int.toNat_natCast]
      have h2 : numE (m : Int) = 0 := by unfold numE; rw [if_neg (by omega)]
      rw [h1, h2]
      exact rnum_ok m (by omega) w
end Go.Proofs.Ytkmmphcmkmacpaa
