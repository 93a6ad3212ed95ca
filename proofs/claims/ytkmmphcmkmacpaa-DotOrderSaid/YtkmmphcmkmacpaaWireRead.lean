/-
  wire's last and number: what a number's bytes read as.
-/
import Derived.Test.YtkmmphcmkmacpaaWirePlain2
import Derived.Test.YtkmmphcmkmacpaaWireNum2
namespace Go.Proofs.Ytkmmphcmkmacpaa
open Go.RowKit
set_option linter.unusedVariables false
set_option linter.unusedSimpArgs false

theorem i64_or_nat (a b : Nat) (ha : a < 9223372036854775808) (hb : b < 9223372036854775808) : bits .or .i64 (a : Int) (b : Int) = ((a ||| b : Nat) : Int) := by
  have hx : a ||| b < 2 ^ 63 := Nat.or_lt_two_pow (by omega) (by omega)
  show IntKind.i64.wrap ((BitVec.ofInt 64 (a : Int) ||| BitVec.ofInt 64 (b : Int)).toNat : Int) = _
  rw [BitVec.toNat_or, ofInt_u64 a (by omega), ofInt_u64 b (by omega), IntKind.wrap_i64]
  omega
theorem and_127 : ∀ x : Fin 256, bits .and .u8 ((x.val : Nat) : Int) 127 = ((x.val % 128 : Nat) : Int) := by decide +kernel
theorem and_low (c : UInt8) : bits .and .u8 (c.toNat : Int) 127 = ((c.toNat % 128 : Nat) : Int) := and_127 ⟨c.toNat, c.toNat_lt⟩

set_option maxHeartbeats 1000000 in
set_option maxRecDepth 100000 in
theorem last_c (s : ByteArray) (hs : s.size < 9223372036854775807) (w : World) : Calls Try.prog 191 #[.string s] w fun e w' => e = .returned (.tuple #[.int .i64 ((if endB s.data.toList < s.size then endB s.data.toList else 0 : Nat) : Int), .bool (decide (endB s.data.toList < s.size))]) ∧ w = w' := by
  generalize hr : (if endB s.data.toList < s.size then endB s.data.toList else 0) = r
  generalize hb : decide (endB s.data.toList < s.size) = b
  have HR := Lib.hid hr
  have HBb := Lib.hid hb
  clear hr hb
  have hsz : s.data.toList.length = s.size := by simp
  have HSZ := Lib.hid hsz
  clear hsz
  go_enter Try.func191, Try.ntmps191
  go_wp2_with fail
  go_loopw [4, 7] (fun _ vi wr => ∃ (k : Nat), vi = .int .i64 k ∧ k ≤ s.size ∧ wr = w ∧ Hid (∀ j, j < k → 128 ≤ (s.data.toList.getD j 0).toNat)) (fun _ vi _ => s.size - (intOf vi).toNat)
  case atStart => exact ⟨0, rfl, by omega, rfl, fun j hj => absurd hj (by omega)⟩
  case round =>
    obtain ⟨k, rfl, hk, rfl, HM⟩ := hrel
    by_cases hlt : k < s.size
    · have hg := at_get s k hlt
      have HM2 : Hid (128 ≤ (s.data.toList.getD k 0).toNat → ∀ j, j < k + 1 → 128 ≤ (s.data.toList.getD j 0).toNat) := by
        intro h j hj
        rcases Nat.lt_or_ge j k with g | g
        · exact HM.out j g
        · obtain rfl : j = k := by omega
          exact h
      have HE : Hid ((s.data.toList.getD k 0).toNat < 128 → endB s.data.toList = k) := fun h => endB_eq _ k (by rw [HSZ.out]; exact hk) HM.out (fun _ => h)
      rw [← hg] at HM2 HE
      clear hg
      by_cases hc : s[k].toNat < 128
      · have HE2 := Lib.hid (HE.out hc)
        have hc' : ((s[k].toNat : Nat) : Int) < 128 := by omega
        have HL : Hid (k < s.size) := hlt
        clear HM HM2 HE
        go_wp2_with fail
        go_ret2
        exact ⟨by rw [← HR.out, ← HBb.out, HE2.out, if_pos HL.out, decide_eq_true HL.out]; rfl, rfl⟩
      · have HM3 := Lib.hid (HM2.out (by omega))
        have hc' : ¬ ((s[k].toNat : Nat) : Int) < 128 := by omega
        clear HM HM2 HE
        go_wp2_with fail
        go_roundw
        case rel => exact ⟨k + 1, by go_num, by omega, trivial, HM3⟩
        case measure => simp [intOf]; omega
    · have hks : k = s.size := by omega
      have HE : Hid (endB s.data.toList = s.size) := by rw [← hks]; exact endB_eq _ k (by rw [HSZ.out]; exact hk) HM.out (fun h => absurd h (by rw [HSZ.out]; omega))
      clear HM hks
      go_wp2_with fail
      go_ret2
      exact ⟨by rw [← HR.out, ← HBb.out, HE.out, if_neg (Nat.lt_irrefl _), decide_eq_false (Nat.lt_irrefl _)]; rfl, rfl⟩
end Go.Proofs.Ytkmmphcmkmacpaa
