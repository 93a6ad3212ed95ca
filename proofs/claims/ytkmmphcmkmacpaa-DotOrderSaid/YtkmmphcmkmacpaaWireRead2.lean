/-
  wire.number: what a number's bytes read as.
-/
import Derived.Test.YtkmmphcmkmacpaaWireRead
namespace Go.Proofs.Ytkmmphcmkmacpaa
open Go.RowKit
set_option linter.unusedVariables false
set_option linter.unusedSimpArgs false

theorem or_join (i v c : Nat) (hi : i ≤ 49) (hv : v < 2 ^ i) : bits .or .i64 (v : Int) ((c : Int) % 128 * ((2 ^ i : Nat) : Int)) = ((v + c % 128 * 2 ^ i : Nat) : Int) := by
  have h2 : 2 ^ i ≤ 2 ^ 49 := Nat.pow_le_pow_right (by decide) hi
  have h3 : c % 128 * 2 ^ i ≤ 127 * 2 ^ 49 := Nat.mul_le_mul (by omega) h2
  have e : (c : Int) % 128 * ((2 ^ i : Nat) : Int) = ((c % 128 * 2 ^ i : Nat) : Int) := by rw [Int.natCast_mul]; rfl
  rw [e, i64_or_nat _ _ (by omega) (by omega), Nat.or_comm, nat_join i _ _ (Nat.mul_mod_left _ _) hv, Nat.add_comm]
theorem val_next (s : ByteArray) (k : Nat) (h : k < s.size) : valB (s.data.toList.take (k + 1)) = valB (s.data.toList.take k) + s[k].toNat % 128 * 2 ^ (7 * k) := by
  have hl : k < s.data.toList.length := by simpa using h
  rw [take_one _ _ hl, valB_snoc, at_get s k h, List.length_take, Nat.min_eq_left (by omega), show (128 : Nat) = 2 ^ 7 from rfl, ← Nat.pow_mul]
theorem val_bound (s : ByteArray) (k : Nat) (h : k < s.size) : valB (s.data.toList.take k) < 2 ^ (7 * k) := by
  have hl : k < s.data.toList.length := by simpa using h
  have := valB_lt (s.data.toList.take k)
  rw [List.length_take, Nat.min_eq_left (by omega), show (128 : Nat) = 2 ^ 7 from rfl, ← Nat.pow_mul] at this
  exact this

theorem ret_iii {a b c a' b' c' : Int} (h : a = a') (h' : b = b') (h'' : c = c') : Ending.returned (.tuple #[.int .i64 a, .int .i64 b, .int .i64 c]) = .returned (.tuple #[.int .i64 a', .int .i64 b', .int .i64 c']) := by rw [h, h', h'']

set_option maxHeartbeats 2000000 in
set_option maxRecDepth 100000 in
theorem number_c (s : ByteArray) (hs : s.size < 9223372036854775807) (w : World) : Calls Try.prog 155 #[.string s] w fun e w' => e = .returned (.tuple #[.int .i64 ((numR s.data.toList).2.1 : Nat), .int .i64 ((numR s.data.toList).2.2 : Nat), .int .i64 (numR s.data.toList).1]) ∧ w = w' := by
  have hl := last_c s hs
  have hsz : s.data.toList.length = s.size := by simp
  have hle := endB_le s.data.toList
  rw [hsz] at hle
  generalize hr : numR s.data.toList = r
  have HR := Lib.hid hr
  clear hr
  have HSZ := Lib.hid hsz
  clear hsz hs
  by_cases h1 : endB s.data.toList < s.size
  · rw [if_pos h1, decide_eq_true h1] at hl
    have hg := at_get s _ h1
    by_cases h2 : 7 < endB s.data.toList
    · have HE : Hid (r = (2, 0, 0)) := by show _ = _; rw [← HR.out]; unfold numR; rw [if_neg (by rw [HSZ.out]; omega), if_pos h2]
      clear HR hg
      generalize endB s.data.toList = e at *
      go_enter Try.func155, Try.ntmps155
      go_wp2_with (go_at_call 191; refine (hl _).mono ?_; rintro e w' ⟨rfl, rfl⟩)
      go_ret3
      exact ⟨by rw [HE.out]; rfl, rfl⟩
    · by_cases h3 : 0 < endB s.data.toList ∧ (s.data.toList.getD (endB s.data.toList) 0).toNat = 0
      · have HE : Hid (r = (5, 0, 0)) := by show _ = _; rw [← HR.out]; unfold numR; rw [if_neg (by rw [HSZ.out]; omega), if_neg h2, if_pos h3]
        have h4 := h3.2
        rw [← hg] at h4
        have h5 := h3.1
        clear HR hg h3
        generalize endB s.data.toList = e at *
        go_enter Try.func155, Try.ntmps155
        have hd1 : ¬ ((e : Nat) : Int) ≥ 8 := by omega
        have hd2 : decide ((e : Int) > 0) = true := decide_eq_true (by omega)
        have h4' : (((s[e].toNat : Nat) : Int) == 0) = true := by rw [h4]; rfl
        go_wp2_with (go_at_call 191; refine (hl _).mono ?_; rintro e w' ⟨rfl, rfl⟩)
        go_ret3
        exact ⟨by rw [HE.out]; rfl, rfl⟩
      · have HE : Hid (r = if 9007199254740992 < valB (s.data.toList.take (endB s.data.toList + 1)) then (2, 0, 0) else (0, valB (s.data.toList.take (endB s.data.toList + 1)), endB s.data.toList + 1)) := by
          show _ = _; rw [← HR.out]; unfold numR; rw [if_neg (by rw [HSZ.out]; omega), if_neg h2, if_neg h3]
        have HZ : Hid (¬ (0 < endB s.data.toList ∧ s[endB s.data.toList].toNat = 0)) := by rw [hg]; exact h3
        clear HR hg h3
        generalize endB s.data.toList = e at *
        have hd1 : ¬ ((e : Nat) : Int) ≥ 8 := by omega
        have hmain : ∀ w, Calls Try.prog 155 #[.string s] w fun e w' => e = .returned (.tuple #[.int .i64 (r.2.1 : Nat), .int .i64 (r.2.2 : Nat), .int .i64 r.1]) ∧ w = w' := by
          intro w
          by_cases h0 : 0 < e
          · have hd2 : decide ((e : Int) > 0) = true := decide_eq_true (by omega)
            have h4' : (((s[e].toNat : Nat) : Int) == 0) = false := by rw [beq_eq_false_iff_ne]; have := HZ.out; omega
            go_enter Try.func155, Try.ntmps155
            go_wp2_with (go_at_call 191; refine (hl _).mono ?_; rintro e w' ⟨rfl, rfl⟩)
            go_loopw [7, 8, 31] (fun vn _ vi wr => ∃ (k : Nat), vi = .int .i64 k ∧ k ≤ e + 1 ∧ vn = .int .i64 (valB (s.data.toList.take k) : Nat) ∧ wr = w) (fun _ _ vi _ => e + 1 - (intOf vi).toNat)
            case atStart => exact ⟨0, rfl, by omega, rfl, rfl⟩
            case round =>
              obtain ⟨k, rfl, hk, rfl, rfl⟩ := hrel
              by_cases hlt : k < e + 1
              · have hks : k < s.size := by omega
                have hlow := and_low s[k]
                have hnx := val_next s k hks
                have hj := fun (h : 7 * k ≤ 49) => or_join (7 * k) (valB (s.data.toList.take k)) s[k].toNat h (val_bound s k hks)
                rw [← hnx] at hj
                clear hnx
                generalize valB (s.data.toList.take k) = v at *
                have hk8 : k = 0 ∨ k = 1 ∨ k = 2 ∨ k = 3 ∨ k = 4 ∨ k = 5 ∨ k = 6 ∨ k = 7 := by omega
                rcases hk8 with rfl | rfl | rfl | rfl | rfl | rfl | rfl | rfl
                · have HJ := Lib.hid (hj (by decide))
                  clear hj
                  go_wp2_with fail
                  go_roundw
                  case rel => exact ⟨1, rfl, by omega, congrArg _ (Eq.trans (by simp) HJ.out), trivial⟩
                  case measure => (simp [intOf]; try omega)
                · have HJ := Lib.hid (hj (by decide))
                  clear hj
                  go_wp2_with fail
                  go_roundw
                  case rel => exact ⟨2, rfl, by omega, congrArg _ HJ.out, trivial⟩
                  case measure => (simp [intOf]; try omega)
                · have HJ := Lib.hid (hj (by decide))
                  clear hj
                  go_wp2_with fail
                  go_roundw
                  case rel => exact ⟨3, rfl, by omega, congrArg _ HJ.out, trivial⟩
                  case measure => (simp [intOf]; try omega)
                · have HJ := Lib.hid (hj (by decide))
                  clear hj
                  go_wp2_with fail
                  go_roundw
                  case rel => exact ⟨4, rfl, by omega, congrArg _ HJ.out, trivial⟩
                  case measure => (simp [intOf]; try omega)
                · have HJ := Lib.hid (hj (by decide))
                  clear hj
                  go_wp2_with fail
                  go_roundw
                  case rel => exact ⟨5, rfl, by omega, congrArg _ HJ.out, trivial⟩
                  case measure => (simp [intOf]; try omega)
                · have HJ := Lib.hid (hj (by decide))
                  clear hj
                  go_wp2_with fail
                  go_roundw
                  case rel => exact ⟨6, rfl, by omega, congrArg _ HJ.out, trivial⟩
                  case measure => (simp [intOf]; try omega)
                · have HJ := Lib.hid (hj (by decide))
                  clear hj
                  go_wp2_with fail
                  go_roundw
                  case rel => exact ⟨7, rfl, by omega, congrArg _ HJ.out, trivial⟩
                  case measure => (simp [intOf]; try omega)
                · have HJ := Lib.hid (hj (by decide))
                  clear hj
                  go_wp2_with fail
                  go_roundw
                  case rel => exact ⟨8, rfl, by omega, congrArg _ HJ.out, trivial⟩
                  case measure => (simp [intOf]; try omega)
              · have hk' : k = e + 1 := by omega
                subst hk'
                clear hlt
                generalize valB (s.data.toList.take (e + 1)) = v at *
                by_cases hbig : 9007199254740992 < v
                · have HE2 : Hid (r = (2, 0, 0)) := by show _ = _; rw [HE.out, if_pos hbig]
                  have hd9 : (v : Int) > 9007199254740992 := by omega
                  clear hbig
                  go_wp2_with fail
                  go_ret3
                  exact ⟨by rw [HE2.out]; rfl, rfl⟩
                · have HE2 : Hid (r = (0, v, e + 1)) := by show _ = _; rw [HE.out, if_neg hbig]
                  have hd9 : ¬ (v : Int) > 9007199254740992 := by omega
                  clear hbig
                  go_wp2_with fail
                  go_ret3
                  exact ⟨by rw [HE2.out]; rfl, rfl⟩
          · have hd2 : decide ((e : Int) > 0) = false := decide_eq_false (by omega)
            go_enter Try.func155, Try.ntmps155
            go_wp2_with (go_at_call 191; refine (hl _).mono ?_; rintro e w' ⟨rfl, rfl⟩)
            go_loopw [7, 8, 31] (fun vn _ vi wr => ∃ (k : Nat), vi = .int .i64 k ∧ k ≤ e + 1 ∧ vn = .int .i64 (valB (s.data.toList.take k) : Nat) ∧ wr = w) (fun _ _ vi _ => e + 1 - (intOf vi).toNat)
            case atStart => exact ⟨0, rfl, by omega, rfl, rfl⟩
            case round =>
              obtain ⟨k, rfl, hk, rfl, rfl⟩ := hrel
              by_cases hlt : k < e + 1
              · have hks : k < s.size := by omega
                have hlow := and_low s[k]
                have hnx := val_next s k hks
                have hj := fun (h : 7 * k ≤ 49) => or_join (7 * k) (valB (s.data.toList.take k)) s[k].toNat h (val_bound s k hks)
                rw [← hnx] at hj
                clear hnx
                generalize valB (s.data.toList.take k) = v at *
                obtain rfl : k = 0 := by omega
                have HJ := Lib.hid (hj (by decide))
                clear hj
                go_wp2_with fail
                go_roundw
                case rel => exact ⟨1, rfl, by omega, congrArg _ (Eq.trans (by simp) HJ.out), trivial⟩
                case measure => (simp [intOf]; try omega)
              · have hk' : k = e + 1 := by omega
                subst hk'
                clear hlt
                generalize valB (s.data.toList.take (e + 1)) = v at *
                by_cases hbig : 9007199254740992 < v
                · have HE2 : Hid (r = (2, 0, 0)) := by show _ = _; rw [HE.out, if_pos hbig]
                  have hd9 : (v : Int) > 9007199254740992 := by omega
                  clear hbig
                  go_wp2_with fail
                  go_ret3
                  exact ⟨by rw [HE2.out]; rfl, rfl⟩
                · have HE2 : Hid (r = (0, v, e + 1)) := by show _ = _; rw [HE.out, if_neg hbig]
                  have hd9 : ¬ (v : Int) > 9007199254740992 := by omega
                  clear hbig
                  go_wp2_with fail
                  go_ret3
                  exact ⟨by rw [HE2.out]; rfl, rfl⟩
        exact hmain w
  · rw [if_neg h1, decide_eq_false h1] at hl
    have HE : Hid (r = (4, 0, 0)) := by show _ = _; rw [← HR.out]; unfold numR; rw [if_pos (by rw [HSZ.out]; omega)]
    clear HR
    go_enter Try.func155, Try.ntmps155
    go_wp2_with (go_at_call 191; refine (hl _).mono ?_; rintro e w' ⟨rfl, rfl⟩)
    go_ret3
    exact ⟨by rw [HE.out]; rfl, rfl⟩
end Go.Proofs.Ytkmmphcmkmacpaa
