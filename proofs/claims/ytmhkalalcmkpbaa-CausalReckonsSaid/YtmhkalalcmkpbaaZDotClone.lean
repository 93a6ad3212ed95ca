/-
  WireNum WireNum2 WireRead WireRead2 WireTake WireRef DotClone
-/
import Derived.Test.YtmhkalalcmkpbaaZDotSame
import Derived.Test.YtmhkalalcmkpbaaZMem2
import Derived.Test.YtmhkalalcmkpbaaZWirePlain
import Derived.Test.YtmhkalalcmkpbaaZWirePlain2
import Derived.WalkLawsBesides
import Derived.Laws.Cover2
import Derived.Lib.Hide
import Derived.Deep.Cut
import Derived.Handy
import Derived.Outline
import Derived.Below
import Derived.Laws.AppendOwn
import Derived.Deep.LoopGhost
import Derived.WalkMore
import Derived.ScopeJumps
import Derived.Laws.Concat
import Derived.Laws.ResultCell
import Derived.Lib.SliceRun
namespace Go.Proofs.Ytmhkalalcmkpbaa
open Go.RowKit
set_option linter.unusedVariables false
set_option linter.unusedSimpArgs false

theorem info8 : (Try.prog.info? 5).map (fun i => (i.zero, i.size, i.bytes)) = some (some (.int .u8 0), 1, 1) := by kernel_rfl
theorem slice8 : Try.prog.underlying 155 = some (.slice 5) := by kernel_rfl
theorem conv_own (w : World) (base : Nat) (v : Value) (n : Nat) (xs : List Int) (hn : xs.length = n) (h0 : 0 < n) (hown : w.ownsRow base 5 1 v n (xs.map (Value.int .u8))) :
    (convert 155 9 v).run Try.prog w = .ok (.string (strOfNums xs)) w := by
  obtain ⟨g, cap, rfl, _, _⟩ := hown.form h0
  refine run_convert_bytes_arg (P := Try.prog) w 155 5 slice8 (by kernel_rfl) g 0 n cap xs hn ?_ 9 (by kernel_rfl)
  intro i hi
  rw [Nat.zero_add, World.ownsRow.cellAt hown i (by omega)]
  simp [List.getD, show i < xs.length by omega]
/-- What Num answers. -/
def numS (n : Int) : ByteArray := if n < 0 ∨ 9007199254740992 < n then ⟨#[]⟩ else strOfNums (putN n.toNat)
def numE (n : Int) : Int := if n < 0 ∨ 9007199254740992 < n then 2 else 0

set_option maxHeartbeats 1000000 in
set_option maxRecDepth 100000 in
theorem num_ok (n : Nat) (hn : (n : Int) ≤ 9007199254740992) (w : World) : Calls Try.prog 63 #[.int .i64 n] w fun e w' => e = .returned (.tuple #[.string (strOfNums (putN n)), .int .i64 0]) ∧ Below w.heap.size w w' := by
  have hd : decide ((n : Int) < 0) = false := decide_eq_false (by omega)
  have hd2 : decide ((n : Int) > 9007199254740992) = false := decide_eq_false (by omega)
  go_enter Try.func63, Try.ntmps63
  go_wp2
  have HO : Hid (w.ownsRow w.heap.size 5 1 (.slice none 0 0) 0 (([] : List Int).map (Value.int .u8))) := World.ownsRow_nil _ _ _ _
  have HB : Hid (Below w.heap.size w w) := Below.refl _ _
  have hlast : ∀ (m k : Nat) (bs : List Int) (w1 : World) (v1 : Value), m < 128 → bs.length = k → k < 100 → bs ++ putN m = putN n → w1.ownsRow w.heap.size 5 1 v1 (k + 1) (bs.map (Value.int .u8) ++ [.int .u8 (m : Int)]) → (convert 155 9 v1).run Try.prog w1 = .ok (.string (strOfNums (putN n))) w1 := by
    intro m k bs w1 v1 hm hb hk he ho
    refine conv_own w1 w.heap.size v1 (k + 1) (putN n) ?_ (by omega) ?_
    · rw [← he, putN_small hm]; simp [hb]
    · rw [← he, putN_small hm, List.map_append]; exact ho
  have HLAST := Lib.hid hlast
  clear hlast
  refine wp_scope_jumps 0 (fun a' w' => ∃ (m k : Nat) (bs : List Int) (v u1 u5 u6 u7 u8 u9 u10 u11 u12 u13 u14 u15 u16 u17 u18 u19 u20 u21 u22 u23 u24 u25 u26 : Value), a' = { tmps := #[.int .i64 m, u1, .string ⟨#[]⟩, .int .i64 0, v, u5, u6, u7, u8, u9, u10, u11, u12, u13, u14, u15, u16, u17, u18, u19, u20, u21, u22, u23, u24, u25, u26], defers := [] } ∧ (m : Int) ≤ 9007199254740992 ∧ k ≤ 20 ∧ m < 128 ^ (20 - k) ∧ Hid (bs ++ putN m = putN n) ∧ Hid (bs.length = k) ∧ Hid (w'.ownsRow w.heap.size 5 1 v k (bs.map (Value.int .u8))) ∧ Hid (Below w.heap.size w w')) (fun a' _ => (intOf (a'.tmps.getD 0 undef)).toNat) rfl ?_ ?_
  · by_cases hlt : n < 128
    · have hlt' : ¬ (n : Int) ≥ 128 := by omega
      go_wp2
      go_step3
      go_wp2_with (at_builtin; refine app_one slice8 info8 rfl (by decide) (.int .u8 _) rfl HO.out (by omega) HB.out.size rfl _ _ rfl rfl rfl ?_; intro v1 w1 ho1 hg1; have hcv := HLAST.out n 0 [] w1 v1 (by omega) rfl (by omega) rfl ho1)
      simp only [Exit.jump]
      go_ret2
      exact ⟨rfl, below_app HB.out HO.out (Nat.le_refl _) HB.out.size hg1⟩
    · have hlt' : (n : Int) ≥ 128 := by omega
      have hor := or_more n
      have hst := putN_step hlt
      go_wp2
      go_step3
      go_wp2_with (at_builtin; refine app_one slice8 info8 rfl (by decide) (.int .u8 _) rfl HO.out (by omega) HB.out.size rfl _ _ rfl rfl rfl ?_; intro v1 w1 ho1 hg1)
      go_step3
      refine And.intro rfl ?_
      have e1 : (n : Int) / 128 = ((n / 128 : Nat) : Int) := by omega
      have e2 : bits .or .u8 ((n : Int) % 256) 128 = ((n % 128 + 128 : Nat) : Int) := by rw [← or_more n]; rw [IntKind.wrap_u8]
      rw [e2] at ho1
      rw [e1]
      refine ⟨n / 128, 1, [((n % 128 + 128 : Nat) : Int)], v1, _, _, _, _, _, _, _, _, _, _, _, _, _, _, _, _, _, _, _, _, _, _, _, rfl, by omega, by decide, ?_, hst.symm, rfl, ho1, below_app HB.out HO.out (Nat.le_refl _) HB.out.size hg1⟩
      have : (128 : Nat) ^ (20 - 1) = 10889035741470030830827987437816582766592 := by decide
      omega
  · rintro a' w' ⟨m, k, bs, v, u1, u5, u6, u7, u8, u9, u10, u11, u12, u13, u14, u15, u16, u17, u18, u19, u20, u21, u22, u23, u24, u25, u26, rfl, hm, hk, hpow, HE, HL, HO, HB⟩
    clear hd hd2
    by_cases hlt : m < 128
    · have hlt' : ¬ (m : Int) ≥ 128 := by omega
      go_wp2_with (at_builtin; refine app_one slice8 info8 rfl (by decide) (.int .u8 _) rfl HO.out (by omega) HB.out.size rfl _ _ rfl rfl rfl ?_; intro v1 w1 ho1 hg1; have hcv := HLAST.out m k bs w1 v1 (by omega) HL.out (by omega) HE.out ho1)
      simp only [Exit.jump]
      go_ret2
      exact ⟨rfl, below_app HB.out HO.out (Nat.le_refl _) HB.out.size hg1⟩
    · have hlt' : (m : Int) ≥ 128 := by omega
      have hor := or_more m
      have hst := putN_step hlt
      have hk20 : k < 20 := by
        rcases Nat.lt_or_ge k 20 with h | h
        · exact h
        · obtain rfl : k = 20 := by omega
          simp at hpow; omega
      go_wp2_with (at_builtin; refine app_one slice8 info8 rfl (by decide) (.int .u8 _) rfl HO.out (by omega) HB.out.size rfl _ _ rfl rfl rfl ?_; intro v1 w1 ho1 hg1)
      go_step3
      refine And.intro rfl ?_
      have e1 : (m : Int) / 128 = ((m / 128 : Nat) : Int) := by omega
      have e2 : bits .or .u8 ((m : Int) % 256) 128 = ((m % 128 + 128 : Nat) : Int) := by rw [← or_more m]; rw [IntKind.wrap_u8]
      rw [e2] at ho1
      rw [e1]
      refine ⟨⟨m / 128, k + 1, bs ++ [((m % 128 + 128 : Nat) : Int)], v1, _, _, _, _, _, _, _, _, _, _, _, _, _, _, _, _, _, _, _, _, _, _, _, rfl, by omega, by omega, ?_, ?_, ?_, ?_, below_app HB.out HO.out (Nat.le_refl _) HB.out.size hg1⟩, ?_⟩
      · have h2 : (128 : Nat) ^ (20 - k) = 128 ^ (20 - (k + 1)) * 128 := by rw [← Nat.pow_succ]; congr 1; omega
        rw [h2] at hpow
        omega
      · show _ = _
        rw [← HE.out, hst]; simp
      · show _ = _
        rw [List.length_append, HL.out]; rfl
      · show World.ownsRow _ _ _ _ _ _ _
        rw [List.map_append]; exact ho1
      · simp [intOf]; omega
end Go.Proofs.Ytmhkalalcmkpbaa

namespace Go.Proofs.Ytmhkalalcmkpbaa
open Go.RowKit
set_option linter.unusedVariables false
set_option linter.unusedSimpArgs false

set_option maxHeartbeats 1000000 in
set_option maxRecDepth 100000 in
theorem num_c (n : Int) (w : World) : Calls Try.prog 63 #[.int .i64 n] w fun e w' => e = .returned (.tuple #[.string (numS n), .int .i64 (numE n)]) ∧ Below w.heap.size w w' := by
  by_cases h : n < 0
  · have h1 : numS n = ⟨#[]⟩ := by unfold numS; rw [if_pos (.inl h)]
    have h2 : numE n = 2 := by unfold numE; rw [if_pos (.inl h)]
    rw [h1, h2]; clear h1 h2
    have hd : decide (n < 0) = true := decide_eq_true h
    go_enter Try.func63, Try.ntmps63
    go_wp2
    go_step3
    go_wp2
    try rw [Exit.noGoto_ret]
    go_ret2
    exact ⟨rfl, Below.refl _ _⟩
  · by_cases h' : 9007199254740992 < n
    · have h1 : numS n = ⟨#[]⟩ := by unfold numS; rw [if_pos (.inr h')]
      have h2 : numE n = 2 := by unfold numE; rw [if_pos (.inr h')]
      rw [h1, h2]; clear h1 h2
      have hd : decide (n < 0) = false := decide_eq_false h
      have hd2 : decide (n > 9007199254740992) = true := decide_eq_true h'
      go_enter Try.func63, Try.ntmps63
      go_wp2
      go_step3
      go_wp2
      try rw [Exit.noGoto_ret]
      go_ret2
      exact ⟨rfl, Below.refl _ _⟩
    · obtain ⟨m, rfl⟩ : ∃ m : Nat, n = (m : Int) := ⟨n.toNat, by omega⟩
      have h1 : numS (m : Int) = strOfNums (putN m) := by unfold numS; rw [if_neg (by omega), Int.toNat_natCast]
      have h2 : numE (m : Int) = 0 := by unfold numE; rw [if_neg (by omega)]
      rw [h1, h2]
      exact num_ok m (by omega) w

end Go.Proofs.Ytmhkalalcmkpbaa

namespace Go.Proofs.Ytmhkalalcmkpbaa
open Go.RowKit
set_option linter.unusedVariables false
set_option linter.unusedSimpArgs false

theorem i64_or_nat (a b : Nat) (ha : a < 9223372036854775808) (hb : b < 9223372036854775808) : bits .or .i64 (a : Int) (b : Int) = ((a ||| b : Nat) : Int) := by
  have hx : a ||| b < 2 ^ 63 := Nat.or_lt_two_pow (by omega) (by omega)
  show IntKind.i64.wrap ((BitVec.ofInt 64 (a : Int) ||| BitVec.ofInt 64 (b : Int)).toNat : Int) = _
  rw [BitVec.toNat_or, ofInt_u64 a (by omega), ofInt_u64 b (by omega), IntKind.wrap_i64]
  omega
theorem and_127 : ∀ x : Fin 256, bits .and .u8 ((x.val : Nat) : Int) 127 = ((x.val % 128 : Nat) : Int) := by decide +kernel
theorem and_low (c : UInt8) : bits .and .u8 (c.toNat : Int) 127 = ((c.toNat % 128 : Nat) : Int) := and_127 ⟨c.toNat, c.toNat_lt⟩

set_option maxHeartbeats 1000000 in
set_option maxRecDepth 100000 in
theorem last_c (s : ByteArray) (hs : s.size < 9223372036854775807) (w : World) : Calls Try.prog 155 #[.string s] w fun e w' => e = .returned (.tuple #[.int .i64 ((if endB s.data.toList < s.size then endB s.data.toList else 0 : Nat) : Int), .bool (decide (endB s.data.toList < s.size))]) ∧ w = w' := by
  generalize hr : (if endB s.data.toList < s.size then endB s.data.toList else 0) = r
  generalize hb : decide (endB s.data.toList < s.size) = b
  have HR := Lib.hid hr
  have HBb := Lib.hid hb
  clear hr hb
  have hsz : s.data.toList.length = s.size := by simp
  have HSZ := Lib.hid hsz
  clear hsz
  go_enter Try.func155, Try.ntmps155
  go_wp2_with fail
  go_loopw [4, 7] (fun _ vi wr => ∃ (k : Nat), vi = .int .i64 k ∧ k ≤ s.size ∧ wr = w ∧ Hid (∀ j, j < k → 128 ≤ (s.data.toList.getD j 0).toNat)) (fun _ vi _ => s.size - (intOf vi).toNat)
  case atStart => exact ⟨0, rfl, by omega, rfl, fun j hj => absurd hj (by omega)⟩
  case round =>
    obtain ⟨k, rfl, hk, rfl, HM⟩ := hrel
    by_cases hlt : k < s.size
    · have hg := at_get s k hlt
      have HM2 : Hid (128 ≤ (s.data.toList.getD k 0).toNat → ∀ j, j < k + 1 → 128 ≤ (s.data.toList.getD j 0).toNat) := by
        intro h j hj
        rcases Nat.lt_or_ge j k with g | g
        · exact HM.out j g
        · obtain rfl : j = k := by omega
          exact h
      have HE : Hid ((s.data.toList.getD k 0).toNat < 128 → endB s.data.toList = k) := fun h => endB_eq _ k (by rw [HSZ.out]; exact hk) HM.out (fun _ => h)
      rw [← hg] at HM2 HE
      clear hg
      by_cases hc : s[k].toNat < 128
      · have HE2 := Lib.hid (HE.out hc)
        have hc' : ((s[k].toNat : Nat) : Int) < 128 := by omega
        have HL : Hid (k < s.size) := hlt
        clear HM HM2 HE
        go_wp2_with fail
        go_ret2
        exact ⟨by rw [← HR.out, ← HBb.out, HE2.out, if_pos HL.out, decide_eq_true HL.out]; rfl, rfl⟩
      · have HM3 := Lib.hid (HM2.out (by omega))
        have hc' : ¬ ((s[k].toNat : Nat) : Int) < 128 := by omega
        clear HM HM2 HE
        go_wp2_with fail
        go_roundw
        case rel => exact ⟨k + 1, by go_num, by omega, trivial, HM3⟩
        case measure => simp [intOf]; omega
    · have hks : k = s.size := by omega
      have HE : Hid (endB s.data.toList = s.size) := by rw [← hks]; exact endB_eq _ k (by rw [HSZ.out]; exact hk) HM.out (fun h => absurd h (by rw [HSZ.out]; omega))
      clear HM hks
      go_wp2_with fail
      go_ret2
      exact ⟨by rw [← HR.out, ← HBb.out, HE.out, if_neg (Nat.lt_irrefl _), decide_eq_false (Nat.lt_irrefl _)]; rfl, rfl⟩
end Go.Proofs.Ytmhkalalcmkpbaa

namespace Go.Proofs.Ytmhkalalcmkpbaa
open Go.RowKit
set_option linter.unusedVariables false
set_option linter.unusedSimpArgs false

theorem or_join (i v c : Nat) (hi : i ≤ 49) (hv : v < 2 ^ i) : bits .or .i64 (v : Int) ((c : Int) % 128 * ((2 ^ i : Nat) : Int)) = ((v + c % 128 * 2 ^ i : Nat) : Int) := by
  have h2 : 2 ^ i ≤ 2 ^ 49 := Nat.pow_le_pow_right (by decide) hi
  have h3 : c % 128 * 2 ^ i ≤ 127 * 2 ^ 49 := Nat.mul_le_mul (by omega) h2
  have e : (c : Int) % 128 * ((2 ^ i : Nat) : Int) = ((c % 128 * 2 ^ i : Nat) : Int) := by rw [Int.natCast_mul]; rfl
  rw [e, i64_or_nat _ _ (by omega) (by omega), Nat.or_comm, nat_join i _ _ (Nat.mul_mod_left _ _) hv, Nat.add_comm]
theorem val_next (s : ByteArray) (k : Nat) (h : k < s.size) : valB (s.data.toList.take (k + 1)) = valB (s.data.toList.take k) + s[k].toNat % 128 * 2 ^ (7 * k) := by
  have hl : k < s.data.toList.length := by simpa using h
  rw [take_one _ _ hl, valB_snoc, at_get s k h, List.length_take, Nat.min_eq_left (by omega), show (128 : Nat) = 2 ^ 7 from rfl, ← Nat.pow_mul]
theorem val_bound (s : ByteArray) (k : Nat) (h : k < s.size) : valB (s.data.toList.take k) < 2 ^ (7 * k) := by
  have hl : k < s.data.toList.length := by simpa using h
  have := valB_lt (s.data.toList.take k)
  rw [List.length_take, Nat.min_eq_left (by omega), show (128 : Nat) = 2 ^ 7 from rfl, ← Nat.pow_mul] at this
  exact this

set_option maxHeartbeats 2000000 in
set_option maxRecDepth 100000 in
theorem number_c (s : ByteArray) (hs : s.size < 9223372036854775807) (w : World) : Calls Try.prog 135 #[.string s] w fun e w' => e = .returned (.tuple #[.int .i64 ((numR s.data.toList).2.1 : Nat), .int .i64 ((numR s.data.toList).2.2 : Nat), .int .i64 (numR s.data.toList).1]) ∧ w = w' := by
  have hl := last_c s hs
  have hsz : s.data.toList.length = s.size := by simp
  have hle := endB_le s.data.toList
  rw [hsz] at hle
  generalize hr : numR s.data.toList = r
  have HR := Lib.hid hr
  clear hr
  have HSZ := Lib.hid hsz
  clear hsz hs
  by_cases h1 : endB s.data.toList < s.size
  · rw [if_pos h1, decide_eq_true h1] at hl
    have hg := at_get s _ h1
    by_cases h2 : 7 < endB s.data.toList
    · have HE : Hid (r = (2, 0, 0)) := by show _ = _; rw [← HR.out]; unfold numR; rw [if_neg (by rw [HSZ.out]; omega), if_pos h2]
      clear HR hg
      generalize endB s.data.toList = e at *
      go_enter Try.func135, Try.ntmps135
      go_wp2_with (go_at_call 155; refine (hl _).mono ?_; rintro e w' ⟨rfl, rfl⟩)
      go_ret3
      exact ⟨by rw [HE.out]; rfl, rfl⟩
    · by_cases h3 : 0 < endB s.data.toList ∧ (s.data.toList.getD (endB s.data.toList) 0).toNat = 0
      · have HE : Hid (r = (5, 0, 0)) := by show _ = _; rw [← HR.out]; unfold numR; rw [if_neg (by rw [HSZ.out]; omega), if_neg h2, if_pos h3]
        have h4 := h3.2
        rw [← hg] at h4
        have h5 := h3.1
        clear HR hg h3
        generalize endB s.data.toList = e at *
        go_enter Try.func135, Try.ntmps135
        have hd1 : ¬ ((e : Nat) : Int) ≥ 8 := by omega
        have hd2 : decide ((e : Int) > 0) = true := decide_eq_true (by omega)
        have h4' : (((s[e].toNat : Nat) : Int) == 0) = true := by rw [h4]; rfl
        go_wp2_with (go_at_call 155; refine (hl _).mono ?_; rintro e w' ⟨rfl, rfl⟩)
        go_ret3
        exact ⟨by rw [HE.out]; rfl, rfl⟩
      · have HE : Hid (r = if 9007199254740992 < valB (s.data.toList.take (endB s.data.toList + 1)) then (2, 0, 0) else (0, valB (s.data.toList.take (endB s.data.toList + 1)), endB s.data.toList + 1)) := by
          show _ = _; rw [← HR.out]; unfold numR; rw [if_neg (by rw [HSZ.out]; omega), if_neg h2, if_neg h3]
        have HZ : Hid (¬ (0 < endB s.data.toList ∧ s[endB s.data.toList].toNat = 0)) := by rw [hg]; exact h3
        clear HR hg h3
        generalize endB s.data.toList = e at *
        have hd1 : ¬ ((e : Nat) : Int) ≥ 8 := by omega
        have hmain : ∀ w, Calls Try.prog 135 #[.string s] w fun e w' => e = .returned (.tuple #[.int .i64 (r.2.1 : Nat), .int .i64 (r.2.2 : Nat), .int .i64 r.1]) ∧ w = w' := by
          intro w
          by_cases h0 : 0 < e
          · have hd2 : decide ((e : Int) > 0) = true := decide_eq_true (by omega)
            have h4' : (((s[e].toNat : Nat) : Int) == 0) = false := by rw [beq_eq_false_iff_ne]; have := HZ.out; omega
            go_enter Try.func135, Try.ntmps135
            go_wp2_with (go_at_call 155; refine (hl _).mono ?_; rintro e w' ⟨rfl, rfl⟩)
            go_loopw [7, 8, 31] (fun vn _ vi wr => ∃ (k : Nat), vi = .int .i64 k ∧ k ≤ e + 1 ∧ vn = .int .i64 (valB (s.data.toList.take k) : Nat) ∧ wr = w) (fun _ _ vi _ => e + 1 - (intOf vi).toNat)
            case atStart => exact ⟨0, rfl, by omega, rfl, rfl⟩
            case round =>
              obtain ⟨k, rfl, hk, rfl, rfl⟩ := hrel
              by_cases hlt : k < e + 1
              · have hks : k < s.size := by omega
                have hlow := and_low s[k]
                have hnx := val_next s k hks
                have hj := fun (h : 7 * k ≤ 49) => or_join (7 * k) (valB (s.data.toList.take k)) s[k].toNat h (val_bound s k hks)
                rw [← hnx] at hj
                clear hnx
                generalize valB (s.data.toList.take k) = v at *
                have hk8 : k = 0 ∨ k = 1 ∨ k = 2 ∨ k = 3 ∨ k = 4 ∨ k = 5 ∨ k = 6 ∨ k = 7 := by omega
                rcases hk8 with rfl | rfl | rfl | rfl | rfl | rfl | rfl | rfl
                · have HJ := Lib.hid (hj (by decide))
                  clear hj
                  go_wp2_with fail
                  go_roundw
                  case rel => exact ⟨1, rfl, by omega, congrArg _ (Eq.trans (by simp) HJ.out), trivial⟩
                  case measure => (simp [intOf]; try omega)
                · have HJ := Lib.hid (hj (by decide))
                  clear hj
                  go_wp2_with fail
                  go_roundw
                  case rel => exact ⟨2, rfl, by omega, congrArg _ HJ.out, trivial⟩
                  case measure => (simp [intOf]; try omega)
                · have HJ := Lib.hid (hj (by decide))
                  clear hj
                  go_wp2_with fail
                  go_roundw
                  case rel => exact ⟨3, rfl, by omega, congrArg _ HJ.out, trivial⟩
                  case measure => (simp [intOf]; try omega)
                · have HJ := Lib.hid (hj (by decide))
                  clear hj
                  go_wp2_with fail
                  go_roundw
                  case rel => exact ⟨4, rfl, by omega, congrArg _ HJ.out, trivial⟩
                  case measure => (simp [intOf]; try omega)
                · have HJ := Lib.hid (hj (by decide))
                  clear hj
                  go_wp2_with fail
                  go_roundw
                  case rel => exact ⟨5, rfl, by omega, congrArg _ HJ.out, trivial⟩
                  case measure => (simp [intOf]; try omega)
                · have HJ := Lib.hid (hj (by decide))
                  clear hj
                  go_wp2_with fail
                  go_roundw
                  case rel => exact ⟨6, rfl, by omega, congrArg _ HJ.out, trivial⟩
                  case measure => (simp [intOf]; try omega)
                · have HJ := Lib.hid (hj (by decide))
                  clear hj
                  go_wp2_with fail
                  go_roundw
                  case rel => exact ⟨7, rfl, by omega, congrArg _ HJ.out, trivial⟩
                  case measure => (simp [intOf]; try omega)
                · have HJ := Lib.hid (hj (by decide))
                  clear hj
                  go_wp2_with fail
                  go_roundw
                  case rel => exact ⟨8, rfl, by omega, congrArg _ HJ.out, trivial⟩
                  case measure => (simp [intOf]; try omega)
              · have hk' : k = e + 1 := by omega
                subst hk'
                clear hlt
                generalize valB (s.data.toList.take (e + 1)) = v at *
                by_cases hbig : 9007199254740992 < v
                · have HE2 : Hid (r = (2, 0, 0)) := by show _ = _; rw [HE.out, if_pos hbig]
                  have hd9 : (v : Int) > 9007199254740992 := by omega
                  clear hbig
                  go_wp2_with fail
                  go_ret3
                  exact ⟨by rw [HE2.out]; rfl, rfl⟩
                · have HE2 : Hid (r = (0, v, e + 1)) := by show _ = _; rw [HE.out, if_neg hbig]
                  have hd9 : ¬ (v : Int) > 9007199254740992 := by omega
                  clear hbig
                  go_wp2_with fail
                  go_ret3
                  exact ⟨by rw [HE2.out]; rfl, rfl⟩
          · have hd2 : decide ((e : Int) > 0) = false := decide_eq_false (by omega)
            go_enter Try.func135, Try.ntmps135
            go_wp2_with (go_at_call 155; refine (hl _).mono ?_; rintro e w' ⟨rfl, rfl⟩)
            go_loopw [7, 8, 31] (fun vn _ vi wr => ∃ (k : Nat), vi = .int .i64 k ∧ k ≤ e + 1 ∧ vn = .int .i64 (valB (s.data.toList.take k) : Nat) ∧ wr = w) (fun _ _ vi _ => e + 1 - (intOf vi).toNat)
            case atStart => exact ⟨0, rfl, by omega, rfl, rfl⟩
            case round =>
              obtain ⟨k, rfl, hk, rfl, rfl⟩ := hrel
              by_cases hlt : k < e + 1
              · have hks : k < s.size := by omega
                have hlow := and_low s[k]
                have hnx := val_next s k hks
                have hj := fun (h : 7 * k ≤ 49) => or_join (7 * k) (valB (s.data.toList.take k)) s[k].toNat h (val_bound s k hks)
                rw [← hnx] at hj
                clear hnx
                generalize valB (s.data.toList.take k) = v at *
                obtain rfl : k = 0 := by omega
                have HJ := Lib.hid (hj (by decide))
                clear hj
                go_wp2_with fail
                go_roundw
                case rel => exact ⟨1, rfl, by omega, congrArg _ (Eq.trans (by simp) HJ.out), trivial⟩
                case measure => (simp [intOf]; try omega)
              · have hk' : k = e + 1 := by omega
                subst hk'
                clear hlt
                generalize valB (s.data.toList.take (e + 1)) = v at *
                by_cases hbig : 9007199254740992 < v
                · have HE2 : Hid (r = (2, 0, 0)) := by show _ = _; rw [HE.out, if_pos hbig]
                  have hd9 : (v : Int) > 9007199254740992 := by omega
                  clear hbig
                  go_wp2_with fail
                  go_ret3
                  exact ⟨by rw [HE2.out]; rfl, rfl⟩
                · have HE2 : Hid (r = (0, v, e + 1)) := by show _ = _; rw [HE.out, if_neg hbig]
                  have hd9 : ¬ (v : Int) > 9007199254740992 := by omega
                  clear hbig
                  go_wp2_with fail
                  go_ret3
                  exact ⟨by rw [HE2.out]; rfl, rfl⟩
        exact hmain w
  · rw [if_neg h1, decide_eq_false h1] at hl
    have HE : Hid (r = (4, 0, 0)) := by show _ = _; rw [← HR.out]; unfold numR; rw [if_pos (by rw [HSZ.out]; omega)]
    clear HR
    go_enter Try.func135, Try.ntmps135
    go_wp2_with (go_at_call 155; refine (hl _).mono ?_; rintro e w' ⟨rfl, rfl⟩)
    go_ret3
    exact ⟨by rw [HE.out]; rfl, rfl⟩
end Go.Proofs.Ytmhkalalcmkpbaa

namespace Go.Proofs.Ytmhkalalcmkpbaa
open Go.RowKit
set_option linter.unusedVariables false
set_option linter.unusedSimpArgs false

/-- A reader of the call's own: what is left, and the error. -/
structure Rdr (w : World) (p : Nat) (s : ByteArray) (e : Int) : Prop where
  lt : p < w.heap.size
  text : w.cell? ⟨p, 0, none⟩ = some (.string s)
  err : w.cell? ⟨p, 1, none⟩ = some (.int .i64 e)
  free0 : w.frozen? ⟨p, 0, none⟩ = false
  free1 : w.frozen? ⟨p, 1, none⟩ = false


set_option maxRecDepth 100000 in
theorem new_c (s : ByteArray) (w : World) : Calls Try.prog 80 #[.string s] w fun e w' => e = .returned (.pointer (some ⟨w.heap.size, 0, none⟩)) ∧ w' = w.alloc (.cells #[.string s, .int .i64 0] 177) := by
  go_enter Try.func80, Try.ntmps80
  go_wp2
  go_ret
  exact ⟨rfl, rfl⟩

set_option maxRecDepth 100000 in
theorem err_c (p : Nat) (s : ByteArray) (e : Int) (w : World) (h : Rdr w p s e) : Calls Try.prog 103 #[.pointer (some ⟨p, 0, none⟩)] w fun r w' => r = .returned (.int .i64 e) ∧ w' = w := by
  have h1 := h.err
  go_enter Try.func103, Try.ntmps103
  go_wp2
  go_ret
  exact ⟨rfl, rfl⟩

set_option maxHeartbeats 1000000 in
set_option maxRecDepth 100000 in
theorem taken_c (p : Nat) (s : ByteArray) (e : Int) (w : World) (h : Rdr w p s e) (hs : s.size < 9223372036854775807) :
    Calls Try.prog 134 #[.pointer (some ⟨p, 0, none⟩), .func (.func 135) #[] #[]] w fun r w' =>
      (e ≠ 0 → r = .returned (.int .i64 0) ∧ w' = w) ∧
      (e = 0 → (numR s.data.toList).1 ≠ 0 → r = .returned (.int .i64 0) ∧ w' = w.setCell ⟨p, 1, none⟩ (.int .i64 (numR s.data.toList).1)) ∧
      (e = 0 → (numR s.data.toList).1 = 0 → r = .returned (.int .i64 ((numR s.data.toList).2.1 : Nat)) ∧ w' = w.setCell ⟨p, 0, none⟩ (.string (s.extract (numR s.data.toList).2.2 s.size))) := by
  have h0 := h.text
  have h1 := h.err
  have f0 := h.free0
  have f1 := h.free1
  have hc := number_c s hs
  have HK : Hid ((numR s.data.toList).1 = 0 → (numR s.data.toList).2.2 ≤ s.size) := by
    intro h
    unfold numR at h ⊢
    have hsz : s.data.toList.length = s.size := by simp
    have hle := endB_le s.data.toList
    split at h
    · cases h
    · split at h
      · cases h
      · split at h
        · cases h
        · split at h
          · cases h
          · rename_i a b c d
            rw [if_neg a, if_neg b, if_neg c, if_neg d]
            show endB s.data.toList + 1 ≤ s.size
            omega
  generalize numR s.data.toList = r at *
  obtain ⟨re, rn, rk⟩ := r
  simp only at *
  have HS : Hid (s.size < 9223372036854775807) := hs
  by_cases he : e = 0
  · subst he
    by_cases hr : re = 0
    · subst hr
      have hk : rk ≤ s.size := HK.out rfl
      go_enter Try.func134, Try.ntmps134
      go_wp2_with (go_at_call 135; refine (hc _).mono ?_; rintro e w' ⟨rfl, rfl⟩)
      go_ret
      exact ⟨fun h => absurd rfl h, fun _ h => absurd rfl h, fun _ _ => ⟨rfl, rfl⟩⟩
    · have hrb : (re != 0) = true := by simpa using hr
      go_enter Try.func134, Try.ntmps134
      go_wp2_with (go_at_call 135; refine (hc _).mono ?_; rintro e w' ⟨rfl, rfl⟩)
      go_ret
      exact ⟨fun h => absurd rfl h, fun _ _ => ⟨rfl, rfl⟩, fun _ h => absurd h hr⟩
  · have heb : (e != 0) = true := by simpa using he
    go_enter Try.func134, Try.ntmps134
    go_wp2
    go_ret
    exact ⟨fun _ => ⟨rfl, rfl⟩, fun h => absurd h he, fun h => absurd h he⟩

/-- What a reader does for a number: the number, what is left and the error. -/
def rdN (st : ByteArray × Int) : Nat × (ByteArray × Int) :=
  if st.2 ≠ 0 then (0, st) else if (numR st.1.data.toList).1 ≠ 0 then (0, (st.1, (numR st.1.data.toList).1)) else ((numR st.1.data.toList).2.1, (st.1.extract (numR st.1.data.toList).2.2 st.1.size, 0))
theorem extract_size (s : ByteArray) (k : Nat) : (s.extract k s.size).size ≤ s.size := by rw [ByteArray.size_extract]; omega
theorem rdN_size (st : ByteArray × Int) : (rdN st).2.1.size ≤ st.1.size := by
  unfold rdN
  split
  · exact Nat.le_refl _
  · split
    · exact Nat.le_refl _
    · exact extract_size _ _
theorem Rdr.start (s : ByteArray) (w : World) : Rdr (w.alloc (.cells #[.string s, .int .i64 0] 177)) w.heap.size s 0 :=
  ⟨by simp, by simp, by simp, by simp, by simp⟩
theorem Rdr.set0 {w : World} {p : Nat} {s : ByteArray} {e : Int} (h : Rdr w p s e) (s' : ByteArray) : Rdr (w.setCell ⟨p, 0, none⟩ (.string s')) p s' e :=
  ⟨by simpa [World.setCell] using h.lt, World.cell?_setCell_same _ _ _ h.text, (World.cell?_setCell_other _ _ _ _ (by intro e; cases e)).trans h.err, by rw [World.frozen?_setCell]; exact h.free0, by rw [World.frozen?_setCell]; exact h.free1⟩
theorem Rdr.set1 {w : World} {p : Nat} {s : ByteArray} {e : Int} (h : Rdr w p s e) (e' : Int) : Rdr (w.setCell ⟨p, 1, none⟩ (.int .i64 e')) p s e' :=
  ⟨by simpa [World.setCell] using h.lt, (World.cell?_setCell_other _ _ _ _ (by intro e; cases e)).trans h.text, World.cell?_setCell_same _ _ _ h.err, by rw [World.frozen?_setCell]; exact h.free0, by rw [World.frozen?_setCell]; exact h.free1⟩
theorem grown_cell (w : World) (p o : Nat) (u : Value) : w.grownBy (w.setCell ⟨p, o, none⟩ u) (some p) :=
  ⟨rfl, rfl, rfl, by simp [World.setCell], fun i hi hne => Below.heap_setCell w ⟨p, o, none⟩ u i (by rintro rfl; exact hne rfl)⟩

set_option maxRecDepth 100000 in
theorem rnum_read (p : Nat) (s : ByteArray) (e : Int) (w : World) (h : Rdr w p s e) (hs : s.size < 9223372036854775807) :
    Calls Try.prog 94 #[.pointer (some ⟨p, 0, none⟩)] w fun r w' =>
      r = .returned (.int .i64 ((rdN (s, e)).1 : Nat)) ∧ Rdr w' p (rdN (s, e)).2.1 (rdN (s, e)).2.2 ∧ w.grownBy w' (some p) := by
  have ht : Calls Try.prog 134 #[.pointer (some ⟨p, 0, none⟩), .func (.func 135) #[] #[]] w fun r w' =>
      r = .returned (.int .i64 ((rdN (s, e)).1 : Nat)) ∧ Rdr w' p (rdN (s, e)).2.1 (rdN (s, e)).2.2 ∧ w.grownBy w' (some p) := by
    refine (taken_c p s e w h hs).mono fun r w' ⟨h1, h2, h3⟩ => ?_
    unfold rdN
    by_cases he : e = 0
    · subst he
      by_cases hr : (numR s.data.toList).1 = 0
      · obtain ⟨rfl, rfl⟩ := h3 rfl hr
        rw [if_neg (by simp), if_neg (by simpa using hr)]
        exact ⟨rfl, h.set0 _, grown_cell _ _ _ _⟩
      · obtain ⟨rfl, rfl⟩ := h2 rfl hr
        rw [if_neg (by simp), if_pos (by simpa using hr)]
        exact ⟨rfl, h.set1 _, grown_cell _ _ _ _⟩
    · obtain ⟨rfl, rfl⟩ := h1 he
      rw [if_pos (by simpa using he)]
      exact ⟨rfl, h, World.grownBy.refl _ _⟩
  clear h
  generalize rdN (s, e) = r at *
  obtain ⟨n, s', e'⟩ := r
  go_enter Try.func94, Try.ntmps94
  go_wp2_with (go_at_call 134; refine ht.mono ?_; rintro e w' ⟨rfl, hrd, hgr⟩)
  go_ret
  exact ⟨rfl, hrd, hgr⟩

/-- What Done answers. -/
def doneE (st : ByteArray × Int) : Int := if st.2 ≠ 0 then st.2 else if st.1.size = 0 then 0 else 5
theorem str_empty_iff (s : ByteArray) : s.toList.isEmpty = decide (s.size = 0) := by
  rw [ByteArray.toList_eq, Bool.eq_iff_iff, List.isEmpty_iff, decide_eq_true_eq]
  rw [← List.length_eq_zero_iff]
  simp

set_option maxRecDepth 100000 in
theorem done_c (p : Nat) (s : ByteArray) (e : Int) (w : World) (h : Rdr w p s e) : Calls Try.prog 83 #[.pointer (some ⟨p, 0, none⟩)] w fun r w' => r = .returned (.int .i64 (doneE (s, e))) ∧ w' = w := by
  have h0 := h.text
  have hc := err_c p s e w h
  clear h
  by_cases he : e = 0
  · subst he
    have hse := str_empty_iff s
    by_cases hz : s.size = 0
    · rw [decide_eq_true hz] at hse
      have hd : doneE (s, 0) = 0 := by unfold doneE; rw [if_neg (by simp), if_pos hz]
      rw [hd]; clear hd hz
      go_enter Try.func83, Try.ntmps83
      go_wp2_with (go_at_call 103; refine hc.mono ?_; rintro e w' ⟨rfl, rfl⟩)
      go_ret
      exact ⟨rfl, rfl⟩
    · rw [decide_eq_false hz] at hse
      have hd : doneE (s, 0) = 5 := by unfold doneE; rw [if_neg (by simp), if_neg hz]
      rw [hd]; clear hd hz
      go_enter Try.func83, Try.ntmps83
      go_wp2_with (go_at_call 103; refine hc.mono ?_; rintro e w' ⟨rfl, rfl⟩)
      go_ret
      exact ⟨rfl, rfl⟩
  · have heb : (e != 0) = true := by simpa using he
    have hd : doneE (s, e) = e := by unfold doneE; rw [if_pos (by simpa using he)]
    rw [hd]; clear hd
    go_enter Try.func83, Try.ntmps83
    go_wp2_with (go_at_call 103; refine hc.mono ?_; rintro e w' ⟨rfl, rfl⟩)
    go_ret
    exact ⟨rfl, rfl⟩
end Go.Proofs.Ytmhkalalcmkpbaa

namespace Go.Proofs.Ytmhkalalcmkpbaa
open Go.RowKit
set_option linter.unusedVariables false
set_option linter.unusedSimpArgs false

end Go.Proofs.Ytmhkalalcmkpbaa

namespace Go.Proofs.Ytmhkalalcmkpbaa
open Go.RowKit
set_option linter.unusedVariables false
set_option linter.unusedSimpArgs false

theorem infoDot : (Try.prog.info? 23).map (fun i => (i.zero, i.size, i.bytes)) = some (some (.agg #[.int .i64 0, .int .i64 0]), 2, 16) := by kernel_rfl
theorem sliceDot : Try.prog.underlying 27 = some (.slice 23) := by kernel_rfl

theorem nil_dot (w : World) (a : Option Addr) (n c : Nat) : (binOp .eql 27 (.slice a n c) (.slice none 0 0)).run Try.prog w = .ok (.bool a.isNone) w := Lib.run_eql_slice_nil w _ _ a n c 0 0 sliceDot
attribute [local go_sem] nil_dot
/-- A row of names of the call's own. -/
abbrev OwnD (w : World) (base : Nat) (v : Value) (l : List (Int × Int)) : Prop := w.ownsRow base 23 2 v l.length (l.flatMap encD)
theorem enc_one (l : List (Int × Int)) : ∀ u ∈ l.flatMap encD, u.oneCell' = true := by
  intro u hu
  obtain ⟨d, _, hd⟩ := List.mem_flatMap.1 hu
  simp [encD] at hd
  rcases hd with rfl | rfl <;> rfl

end Go.Proofs.Ytmhkalalcmkpbaa
