/-
  WireNum WireNum2 WireRead
-/
import Derived.Test.YtmhkalalcmkpbaaGreatZMem2
import Derived.Test.YtmhkalalcmkpbaaGreatZWirePlain
import Derived.Test.YtmhkalalcmkpbaaGreatZWirePlain2
import Derived.WalkLawsBesides
import Derived.Laws.Cover2
import Derived.Lib.Hide
import Derived.Deep.Cut
import Derived.Handy
import Derived.Outline
import Derived.Below
import Derived.Laws.AppendOwn
import Derived.Deep.LoopGhost
import Derived.WalkMore
import Derived.ScopeJumps
import Derived.Laws.Concat
namespace Go.Proofs.YtmhkalalcmkpbaaGreat
open Go.RowKit
set_option linter.unusedVariables false
set_option linter.unusedSimpArgs false

theorem info8 : (Tryz.prog.info? 5).map (fun i => (i.zero, i.size, i.bytes)) = some (some (.int .u8 0), 1, 1) := by kernel_rfl
theorem slice8 : Tryz.prog.underlying 46 = some (.slice 5) := by kernel_rfl
theorem conv_own (w : World) (base : Nat) (v : Value) (n : Nat) (xs : List Int) (hn : xs.length = n) (h0 : 0 < n) (hown : w.ownsRow base 5 1 v n (xs.map (Value.int .u8))) :
    (convert 46 9 v).run Tryz.prog w = .ok (.string (strOfNums xs)) w := by
  obtain ⟨g, cap, rfl, _, _⟩ := hown.form h0
  refine run_convert_bytes_arg (P := Tryz.prog) w 46 5 slice8 (by kernel_rfl) g 0 n cap xs hn ?_ 9 (by kernel_rfl)
  intro i hi
  rw [Nat.zero_add, World.ownsRow.cellAt hown i (by omega)]
  simp [List.getD, show i < xs.length by omega]
theorem ret_si {a b : ByteArray} {k : IntKind} {c d : Int} (h : a = b) (h' : c = d) : Ending.returned (.tuple #[.string a, .int k c]) = .returned (.tuple #[.string b, .int k d]) := by rw [h, h']

/-- What Num answers. -/
def numS (n : Int) : ByteArray := if n < 0 ∨ 9007199254740992 < n then ⟨#[]⟩ else strOfNums (putN n.toNat)
def numE (n : Int) : Int := if n < 0 ∨ 9007199254740992 < n then 2 else 0

set_option maxHeartbeats 1000000 in
set_option maxRecDepth 100000 in
theorem num_ok (n : Nat) (hn : (n : Int) ≤ 9007199254740992) (w : World) : Calls Tryz.prog 19 #[.int .i64 n] w fun e w' => e = .returned (.tuple #[.string (strOfNums (putN n)), .int .i64 0]) ∧ Below w.heap.size w w' := by
  have hd : decide ((n : Int) < 0) = false := decide_eq_false (by omega)
  have hd2 : decide ((n : Int) > 9007199254740992) = false := decide_eq_false (by omega)
  go_enter Tryz.func19, Tryz.ntmps19
  go_wp2
  have HO : Hid (w.ownsRow w.heap.size 5 1 (.slice none 0 0) 0 (([] : List Int).map (Value.int .u8))) := World.ownsRow_nil _ _ _ _
  have HB : Hid (Below w.heap.size w w) := Below.refl _ _
  have hlast : ∀ (m k : Nat) (bs : List Int) (w1 : World) (v1 : Value), m < 128 → bs.length = k → k < 100 → bs ++ putN m = putN n → w1.ownsRow w.heap.size 5 1 v1 (k + 1) (bs.map (Value.int .u8) ++ [.int .u8 (m : Int)]) → (convert 46 9 v1).run Tryz.prog w1 = .ok (.string (strOfNums (putN n))) w1 := by
    intro m k bs w1 v1 hm hb hk he ho
    refine conv_own w1 w.heap.size v1 (k + 1) (putN n) ?_ (by omega) ?_
    · rw [← he, putN_small hm]; simp [hb]
    · rw [← he, putN_small hm, List.map_append]; exact ho
  have HLAST := Lib.hid hlast
  clear hlast
  refine wp_scope_jumps 0 (fun a' w' => ∃ (m k : Nat) (bs : List Int) (v u1 u5 u6 u7 u8 u9 u10 u11 u12 u13 u14 u15 u16 u17 u18 u19 u20 u21 u22 u23 u24 u25 u26 : Value), a' = { tmps := #[.int .i64 m, u1, .string ⟨#[]⟩, .int .i64 0, v, u5, u6, u7, u8, u9, u10, u11, u12, u13, u14, u15, u16, u17, u18, u19, u20, u21, u22, u23, u24, u25, u26], defers := [] } ∧ (m : Int) ≤ 9007199254740992 ∧ k ≤ 20 ∧ m < 128 ^ (20 - k) ∧ Hid (bs ++ putN m = putN n) ∧ Hid (bs.length = k) ∧ Hid (w'.ownsRow w.heap.size 5 1 v k (bs.map (Value.int .u8))) ∧ Hid (Below w.heap.size w w')) (fun a' _ => (intOf (a'.tmps.getD 0 undef)).toNat) rfl ?_ ?_
  · by_cases hlt : n < 128
    · have hlt' : ¬ (n : Int) ≥ 128 := by omega
      go_wp2
      go_step3
      go_wp2_with (at_builtin; refine app_one slice8 info8 rfl (by decide) (.int .u8 _) rfl HO.out (by omega) HB.out.size rfl _ _ rfl rfl rfl ?_; intro v1 w1 ho1 hg1; have hcv := HLAST.out n 0 [] w1 v1 (by omega) rfl (by omega) rfl ho1)
      simp only [Exit.jump]
      go_ret2
      exact ⟨rfl, below_app HB.out HO.out (Nat.le_refl _) HB.out.size hg1⟩
    · have hlt' : (n : Int) ≥ 128 := by omega
      have hor := or_more n
      have hst := putN_step hlt
      go_wp2
      go_step3
      go_wp2_with (at_builtin; refine app_one slice8 info8 rfl (by decide) (.int .u8 _) rfl HO.out (by omega) HB.out.size rfl _ _ rfl rfl rfl ?_; intro v1 w1 ho1 hg1)
      go_step3
      refine And.intro rfl ?_
      have e1 : (n : Int) / 128 = ((n / 128 : Nat) : Int) := by omega
      have e2 : bits .or .u8 ((n : Int) % 256) 128 = ((n % 128 + 128 : Nat) : Int) := by rw [← or_more n]; rw [IntKind.wrap_u8]
      rw [e2] at ho1
      rw [e1]
      refine ⟨n / 128, 1, [((n % 128 + 128 : Nat) : Int)], v1, _, _, _, _, _, _, _, _, _, _, _, _, _, _, _, _, _, _, _, _, _, _, _, rfl, by omega, by decide, ?_, hst.symm, rfl, ho1, below_app HB.out HO.out (Nat.le_refl _) HB.out.size hg1⟩
      have : (128 : Nat) ^ (20 - 1) = 10889035741470030830827987437816582766592 := by decide
      omega
  · rintro a' w' ⟨m, k, bs, v, u1, u5, u6, u7, u8, u9, u10, u11, u12, u13, u14, u15, u16, u17, u18, u19, u20, u21, u22, u23, u24, u25, u26, rfl, hm, hk, hpow, HE, HL, HO, HB⟩
    clear hd hd2
    by_cases hlt : m < 128
    · have hlt' : ¬ (m : Int) ≥ 128 := by omega
      go_wp2_with (at_builtin; refine app_one slice8 info8 rfl (by decide) (.int .u8 _) rfl HO.out (by omega) HB.out.size rfl _ _ rfl rfl rfl ?_; intro v1 w1 ho1 hg1; have hcv := HLAST.out m k bs w1 v1 (by omega) HL.out (by omega) HE.out ho1)
      simp only [Exit.jump]
      go_ret2
      exact ⟨rfl, below_app HB.out HO.out (Nat.le_refl _) HB.out.size hg1⟩
    · have hlt' : (m : Int) ≥ 128 := by omega
      have hor := or_more m
      have hst := putN_step hlt
      have hk20 : k < 20 := by
        rcases Nat.lt_or_ge k 20 with h | h
        · exact h
        · obtain rfl : k = 20 := by omega
          simp at hpow; omega
      go_wp2_with (at_builtin; refine app_one slice8 info8 rfl (by decide) (.int .u8 _) rfl HO.out (by omega) HB.out.size rfl _ _ rfl rfl rfl ?_; intro v1 w1 ho1 hg1)
      go_step3
      refine And.intro rfl ?_
      have e1 : (m : Int) / 128 = ((m / 128 : Nat) : Int) := by omega
      have e2 : bits .or .u8 ((m : Int) % 256) 128 = ((m % 128 + 128 : Nat) : Int) := by rw [← or_more m]; rw [IntKind.wrap_u8]
      rw [e2] at ho1
      rw [e1]
      refine ⟨⟨m / 128, k + 1, bs ++ [((m % 128 + 128 : Nat) : Int)], v1, _, _, _, _, _, _, _, _, _, _, _, _, _, _, _, _, _, _, _, _, _, _, _, rfl, by omega, by omega, ?_, ?_, ?_, ?_, below_app HB.out HO.out (Nat.le_refl _) HB.out.size hg1⟩, ?_⟩
      · have h2 : (128 : Nat) ^ (20 - k) = 128 ^ (20 - (k + 1)) * 128 := by rw [← Nat.pow_succ]; congr 1; omega
        rw [h2] at hpow
        omega
      · show _ = _
        rw [← HE.out, hst]; simp
      · show _ = _
        rw [List.length_append, HL.out]; rfl
      · show World.ownsRow _ _ _ _ _ _ _
        rw [List.map_append]; exact ho1
      · simp [intOf]; omega
end Go.Proofs.YtmhkalalcmkpbaaGreat

namespace Go.Proofs.YtmhkalalcmkpbaaGreat
open Go.RowKit
set_option linter.unusedVariables false
set_option linter.unusedSimpArgs false

theorem str_append (xs ys : List Int) : strOfNums xs ++ strOfNums ys = strOfNums (xs ++ ys) := by
  unfold strOfNums; rw [ByteArray.mk_append_mk]; simp
theorem conv1 (w : World) (x : Int) : (convert 46 9 (.slice (some ⟨w.heap.size, 0, none⟩) 1 1)).run Tryz.prog (w.alloc (.cells #[.int .u8 x] 5)) = .ok (.string (strOfNums [x])) (w.alloc (.cells #[.int .u8 x] 5)) := by
  refine run_convert_bytes_arg (P := Tryz.prog) _ 46 5 slice8 (by kernel_rfl) w.heap.size 0 1 1 [x] rfl ?_ 9 (by kernel_rfl)
  intro i hi
  obtain rfl : i = 0 := by omega
  simp

theorem pow_start (n : Nat) (h : (n : Int) ≤ 9007199254740992) : n < 128 ^ (20 - 0) := by
  have : (128 : Nat) ^ (20 - 0) = 1393796574908163946345982392040522594123776 := by decide
  omega

set_option maxHeartbeats 1000000 in
set_option maxRecDepth 100000 in
theorem num_c (n : Int) (w : World) : Calls Tryz.prog 19 #[.int .i64 n] w fun e w' => e = .returned (.tuple #[.string (numS n), .int .i64 (numE n)]) ∧ Below w.heap.size w w' := by
  by_cases h : n < 0
  · have h1 : numS n = ⟨#[]⟩ := by unfold numS; rw [if_pos (.inl h)]
    have h2 : numE n = 2 := by unfold numE; rw [if_pos (.inl h)]
    rw [h1, h2]; clear h1 h2
    have hd : decide (n < 0) = true := decide_eq_true h
    go_enter Tryz.func19, Tryz.ntmps19
    go_wp2
    go_step3
    go_wp2
    try rw [Exit.noGoto_ret]
    go_ret2
    exact ⟨rfl, Below.refl _ _⟩
  · by_cases h' : 9007199254740992 < n
    · have h1 : numS n = ⟨#[]⟩ := by unfold numS; rw [if_pos (.inr h')]
      have h2 : numE n = 2 := by unfold numE; rw [if_pos (.inr h')]
      rw [h1, h2]; clear h1 h2
      have hd : decide (n < 0) = false := decide_eq_false h
      have hd2 : decide (n > 9007199254740992) = true := decide_eq_true h'
      go_enter Tryz.func19, Tryz.ntmps19
      go_wp2
      go_step3
      go_wp2
      try rw [Exit.noGoto_ret]
      go_ret2
      exact ⟨rfl, Below.refl _ _⟩
    · obtain ⟨m, rfl⟩ : ∃ m : Nat, n = (m : Int) := ⟨n.toNat, by omega⟩
      have h1 : numS (m : Int) = strOfNums (putN m) := by unfold numS; rw [if_neg (by omega), Int.toNat_natCast]
      have h2 : numE (m : Int) = 0 := by unfold numE; rw [if_neg (by omega)]
      rw [h1, h2]
      exact num_ok m (by omega) w

set_option maxHeartbeats 1000000 in
set_option maxRecDepth 100000 in
theorem rnum_ok (n : Nat) (hn : (n : Int) ≤ 9007199254740992) (w : World) : Calls Tryz.prog 24 #[.int .i64 n] w fun e w' => e = .returned (.tuple #[.string (strOfNums (putN n)), .int .i64 0]) ∧ Below w.heap.size w w' := by
  have hd : decide ((n : Int) < 0) = false := decide_eq_false (by omega)
  have hd2 : decide ((n : Int) > 9007199254740992) = false := decide_eq_false (by omega)
  generalize hsn : strOfNums (putN n) = sn
  have HSN := Lib.hid hsn
  clear hsn
  go_enter Tryz.func24, Tryz.ntmps24
  go_wp2_with fail
  go_loopw [0, 4] (fun vm vs wr => ∃ (m k : Nat) (bs : List Int), vm = .int .i64 m ∧ vs = .string (strOfNums bs) ∧ (m : Int) ≤ 9007199254740992 ∧ k ≤ 20 ∧ Hid (m < 128 ^ (20 - k)) ∧ Hid (bs ++ putN m = putN n) ∧ Hid (bs.length = k) ∧ Hid (Below w.heap.size w wr)) (fun vm _ _ => (intOf vm).toNat)
  case atStart => exact ⟨n, 0, [], rfl, rfl, hn, by omega, pow_start n hn, rfl, rfl, Below.refl _ _⟩
  case round =>
    obtain ⟨m, k, bs, rfl, rfl, hm, hk, HP, HE, HL, HB⟩ := hrel
    clear hd hd2
    by_cases hlt : m < 128
    · have hlt' : ¬ (m : Int) ≥ 128 := by omega
      have hc := conv1 wr (m : Int)
      have hadd := fun w => run_string_add_sum (P := Tryz.prog) w (strOfNums bs) (strOfNums [(m : Int)]) (by rw [strOfNums_size, strOfNums_size, HL.out]; simp; omega)
      rw [str_append, ← putN_small hlt, HE.out, HSN.out, putN_small hlt] at hadd
      clear HE HP hn
      generalize strOfNums bs = sb at *
      go_wp2_with fail
      go_ret2
      exact ⟨rfl, HB.out.alloc HB.out.size _⟩
    · have hlt' : (m : Int) ≥ 128 := by omega
      have hk20 : k < 20 := by
        rcases Nat.lt_or_ge k 20 with h | h
        · exact h
        · obtain rfl : k = 20 := by omega
          have := HP.out
          simp at this; omega
      have hc := conv1 wr ((m : Int) % 128 + 128)
      have hadd := fun w => run_string_add_sum (P := Tryz.prog) w (strOfNums bs) (strOfNums [(m : Int) % 128 + 128]) (by rw [strOfNums_size, strOfNums_size, HL.out]; simp; omega)
      have hst := putN_step hlt
      have HE2 : Hid (bs ++ [(m : Int) % 128 + 128] ++ putN (m / 128) = putN n) := by
        show _ = _
        rw [← HE.out, hst]; simp
      have HP2 : Hid (m / 128 < 128 ^ (20 - (k + 1))) := by
        have hpow := HP.out
        have h2 : (128 : Nat) ^ (20 - k) = 128 ^ (20 - (k + 1)) * 128 := by rw [← Nat.pow_succ]; congr 1; omega
        rw [h2] at hpow
        show _ < _
        omega
      have HL2 : Hid ((bs ++ [(m : Int) % 128 + 128]).length = k + 1) := by show _ = _; rw [List.length_append, HL.out]; rfl
      rw [str_append] at hadd
      have HQ : Hid ((m : Int) / 128 = ((m / 128 : Nat) : Int)) := by show _ = _; omega
      clear hst HE HP HL hn
      generalize bs ++ [(m : Int) % 128 + 128] = bs2 at *
      go_wp2_with fail
      go_roundw
      case rel => exact ⟨m / 128, k + 1, bs2, congrArg _ HQ.out, rfl, by omega, by omega, HP2, HE2, HL2, HB.out.alloc HB.out.size _⟩
      case measure => simp [intOf]; omega

set_option maxHeartbeats 1000000 in
set_option maxRecDepth 100000 in
theorem rnum_c (n : Int) (w : World) : Calls Tryz.prog 24 #[.int .i64 n] w fun e w' => e = .returned (.tuple #[.string (numS n), .int .i64 (numE n)]) ∧ Below w.heap.size w w' := by
  by_cases h : n < 0
  · have h1 : numS n = ⟨#[]⟩ := by unfold numS; rw [if_pos (.inl h)]
    have h2 : numE n = 2 := by unfold numE; rw [if_pos (.inl h)]
    rw [h1, h2]; clear h1 h2
    have hd : decide (n < 0) = true := decide_eq_true h
    go_enter Tryz.func24, Tryz.ntmps24
    go_wp2
    go_ret2
    exact ⟨rfl, Below.refl _ _⟩
  · by_cases h' : 9007199254740992 < n
    · have h1 : numS n = ⟨#[]⟩ := by unfold numS; rw [if_pos (.inr h')]
      have h2 : numE n = 2 := by unfold numE; rw [if_pos (.inr h')]
      rw [h1, h2]; clear h1 h2
      have hd : decide (n < 0) = false := decide_eq_false h
      have hd2 : decide (n > 9007199254740992) = true := decide_eq_true h'
      go_enter Tryz.func24, Tryz.ntmps24
      go_wp2
      go_ret2
      exact ⟨rfl, Below.refl _ _⟩
    · obtain ⟨m, rfl⟩ : ∃ m : Nat, n = (m : Int) := ⟨n.toNat, by omega⟩
      have h1 : numS (m : Int) = strOfNums (putN m) := by unfold numS; rw [if_neg (by omega), Int.toNat_natCast]
      have h2 : numE (m : Int) = 0 := by unfold numE; rw [if_neg (by omega)]
      rw [h1, h2]
      exact rnum_ok m (by omega) w
end Go.Proofs.YtmhkalalcmkpbaaGreat

namespace Go.Proofs.YtmhkalalcmkpbaaGreat
open Go.RowKit
set_option linter.unusedVariables false
set_option linter.unusedSimpArgs false

theorem i64_or_nat (a b : Nat) (ha : a < 9223372036854775808) (hb : b < 9223372036854775808) : bits .or .i64 (a : Int) (b : Int) = ((a ||| b : Nat) : Int) := by
  have hx : a ||| b < 2 ^ 63 := Nat.or_lt_two_pow (by omega) (by omega)
  show IntKind.i64.wrap ((BitVec.ofInt 64 (a : Int) ||| BitVec.ofInt 64 (b : Int)).toNat : Int) = _
  rw [BitVec.toNat_or, ofInt_u64 a (by omega), ofInt_u64 b (by omega), IntKind.wrap_i64]
  omega
theorem and_127 : ∀ x : Fin 256, bits .and .u8 ((x.val : Nat) : Int) 127 = ((x.val % 128 : Nat) : Int) := by decide +kernel
theorem and_low (c : UInt8) : bits .and .u8 (c.toNat : Int) 127 = ((c.toNat % 128 : Nat) : Int) := and_127 ⟨c.toNat, c.toNat_lt⟩

set_option maxHeartbeats 1000000 in
set_option maxRecDepth 100000 in
theorem last_c (s : ByteArray) (hs : s.size < 9223372036854775807) (w : World) : Calls Tryz.prog 87 #[.string s] w fun e w' => e = .returned (.tuple #[.int .i64 ((if endB s.data.toList < s.size then endB s.data.toList else 0 : Nat) : Int), .bool (decide (endB s.data.toList < s.size))]) ∧ w = w' := by
  generalize hr : (if endB s.data.toList < s.size then endB s.data.toList else 0) = r
  generalize hb : decide (endB s.data.toList < s.size) = b
  have HR := Lib.hid hr
  have HBb := Lib.hid hb
  clear hr hb
  have hsz : s.data.toList.length = s.size := by simp
  have HSZ := Lib.hid hsz
  clear hsz
  go_enter Tryz.func87, Tryz.ntmps87
  go_wp2_with fail
  go_loopw [4, 7] (fun _ vi wr => ∃ (k : Nat), vi = .int .i64 k ∧ k ≤ s.size ∧ wr = w ∧ Hid (∀ j, j < k → 128 ≤ (s.data.toList.getD j 0).toNat)) (fun _ vi _ => s.size - (intOf vi).toNat)
  case atStart => exact ⟨0, rfl, by omega, rfl, fun j hj => absurd hj (by omega)⟩
  case round =>
    obtain ⟨k, rfl, hk, rfl, HM⟩ := hrel
    by_cases hlt : k < s.size
    · have hg := at_get s k hlt
      have HM2 : Hid (128 ≤ (s.data.toList.getD k 0).toNat → ∀ j, j < k + 1 → 128 ≤ (s.data.toList.getD j 0).toNat) := by
        intro h j hj
        rcases Nat.lt_or_ge j k with g | g
        · exact HM.out j g
        · obtain rfl : j = k := by omega
          exact h
      have HE : Hid ((s.data.toList.getD k 0).toNat < 128 → endB s.data.toList = k) := fun h => endB_eq _ k (by rw [HSZ.out]; exact hk) HM.out (fun _ => h)
      rw [← hg] at HM2 HE
      clear hg
      by_cases hc : s[k].toNat < 128
      · have HE2 := Lib.hid (HE.out hc)
        have hc' : ((s[k].toNat : Nat) : Int) < 128 := by omega
        have HL : Hid (k < s.size) := hlt
        clear HM HM2 HE
        go_wp2_with fail
        go_ret2
        exact ⟨by rw [← HR.out, ← HBb.out, HE2.out, if_pos HL.out, decide_eq_true HL.out]; rfl, rfl⟩
      · have HM3 := Lib.hid (HM2.out (by omega))
        have hc' : ¬ ((s[k].toNat : Nat) : Int) < 128 := by omega
        clear HM HM2 HE
        go_wp2_with fail
        go_roundw
        case rel => exact ⟨k + 1, by go_num, by omega, trivial, HM3⟩
        case measure => simp [intOf]; omega
    · have hks : k = s.size := by omega
      have HE : Hid (endB s.data.toList = s.size) := by rw [← hks]; exact endB_eq _ k (by rw [HSZ.out]; exact hk) HM.out (fun h => absurd h (by rw [HSZ.out]; omega))
      clear HM hks
      go_wp2_with fail
      go_ret2
      exact ⟨by rw [← HR.out, ← HBb.out, HE.out, if_neg (Nat.lt_irrefl _), decide_eq_false (Nat.lt_irrefl _)]; rfl, rfl⟩
end Go.Proofs.YtmhkalalcmkpbaaGreat
