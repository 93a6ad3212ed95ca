/-
  Contracts of float.Put, float.Read and of the reference's, and of the law's nan.
-/
import Derived.Test.YtngjfeielpnnnaaFloatWalks
import Derived.Handy
import Derived.Outline
import Derived.Below
import Derived.Laws.BytesArg
namespace Go.Proofs.Ytngjfeielpnnnaa
open Go.RowKit
open FloatPlain
set_option linter.unusedVariables false
attribute [local go_sem] run_frombits run_bits u64_signed

/-- The bytes of a word, the first ones first. -/
def be8 (r : Nat) : List Int := [(r : Int) / 72057594037927936 % 256, (r : Int) / 281474976710656 % 256, (r : Int) / 1099511627776 % 256, (r : Int) / 4294967296 % 256, (r : Int) / 16777216 % 256, (r : Int) / 65536 % 256, (r : Int) / 256 % 256, (r : Int) % 256]

theorem conv8 (w : World) (x0 x1 x2 x3 x4 x5 x6 x7 : Int) :
    (convert 84 9 (.slice (some ⟨w.heap.size, 0, none⟩) 8 8)).run Try.prog (w.alloc (.cells #[.int .u8 x0, .int .u8 x1, .int .u8 x2, .int .u8 x3, .int .u8 x4, .int .u8 x5, .int .u8 x6, .int .u8 x7] 83)) =
      .ok (.string (strOfNums [x0, x1, x2, x3, x4, x5, x6, x7])) (w.alloc (.cells #[.int .u8 x0, .int .u8 x1, .int .u8 x2, .int .u8 x3, .int .u8 x4, .int .u8 x5, .int .u8 x6, .int .u8 x7] 83)) := by
  refine run_convert_bytes_arg (P := Try.prog) _ 84 5 (by kernel_rfl) (by kernel_rfl) w.heap.size 0 8 8 [x0, x1, x2, x3, x4, x5, x6, x7] rfl ?_ 9 (by kernel_rfl)
  intro i hi
  have : i = 0 ∨ i = 1 ∨ i = 2 ∨ i = 3 ∨ i = 4 ∨ i = 5 ∨ i = 6 ∨ i = 7 := by omega
  rcases this with rfl | rfl | rfl | rfl | rfl | rfl | rfl | rfl <;> simp

set_option maxRecDepth 100000 in
theorem put_c (b : Nat) (w : World) : Calls Try.prog 39 #[.float .f64 b] w fun e w' => e = .returned (.string (strOfNums (be8 (rawB b)))) ∧ Below w.heap.size w w' := by
  have c := raw_c b
  unfold be8
  generalize rawB b = r at *
  go_enter Try.func39, Try.ntmps39
  go_wp2_with (go_at_call 63; refine (c _).mono ?_; rintro e w' ⟨rfl, rfl⟩)
  go_rounds 9
  rw [conv8]
  go_wp2
  go_ret
  exact ⟨rfl, (Below.refl _ _).alloc (Nat.le_refl _) _⟩

def valOf (l : List UInt8) : Nat := l.foldl (fun n c => n * 256 + c.toNat) 0
theorem take_snoc (s : ByteArray) (k : Nat) (h : k < s.size) : s.data.toList.take (k + 1) = s.data.toList.take k ++ [s[k]] := by
  rw [List.take_succ_eq_append_getElem (by simpa using h)]; rfl
theorem val_snoc (l : List UInt8) (c : UInt8) : valOf (l ++ [c]) = valOf l * 256 + c.toNat := by unfold valOf; rw [List.foldl_append]; rfl
theorem val_lt' : ∀ (n : Nat) (l : List UInt8), l.length = n → valOf l < 256 ^ n := by
  intro n
  induction n with
  | zero => intro l h; obtain rfl := List.eq_nil_of_length_eq_zero h; decide
  | succ n ih =>
    intro l h
    have hne : l ≠ [] := by intro e; subst e; simp at h
    have hd := List.dropLast_concat_getLast hne
    have := ih l.dropLast (by simp [h])
    rw [← hd, val_snoc, Nat.pow_succ]
    have := (l.getLast hne).toNat_lt
    omega
theorem val_lt (l : List UInt8) : valOf l < 256 ^ l.length := val_lt' _ l rfl
theorem val_take (s : ByteArray) (k : Nat) (hk : k < 8) : valOf (s.data.toList.take k) < 72057594037927936 := by
  have h := val_lt (s.data.toList.take k)
  have hl : (s.data.toList.take k).length ≤ 7 := Nat.le_trans (List.length_take_le _ _) (by omega)
  have : (256 : Nat) ^ (s.data.toList.take k).length ≤ 256 ^ 7 := Nat.pow_le_pow_right (by decide) hl
  have e : (256 : Nat) ^ 7 = 72057594037927936 := by decide
  omega
theorem val_lt8 (s : ByteArray) (h : s.size = 8) : valOf s.data.toList < 18446744073709551616 := by
  have h1 := val_lt s.data.toList
  have : s.data.toList.length = 8 := by simpa using h
  rw [this] at h1
  have e : (256 : Nat) ^ 8 = 18446744073709551616 := by decide
  omega
theorem or_byte (v : Nat) (c : UInt8) (hv : v < 72057594037927936) : bits .or .u64 (IntKind.u64.wrap ((v : Int) * 256)) (IntKind.u64.wrap (c.toNat : Int)) = ((v * 256 + c.toNat : Nat) : Int) := by
  have hc := c.toNat_lt
  have e1 : IntKind.u64.wrap ((v : Int) * 256) = ((v * 256 : Nat) : Int) := by rw [IntKind.wrap_u64]; omega
  have e2 : IntKind.u64.wrap (c.toNat : Int) = ((c.toNat : Nat) : Int) := by rw [IntKind.wrap_u64]; omega
  rw [e1, e2, u64_or_nat _ _ (by omega) (by omega), nat_join 8 (v * 256) c.toNat (by omega) (by omega)]
theorem mul_byte (v : Nat) (c : UInt8) (hv : v < 72057594037927936) : IntKind.u64.wrap (IntKind.u64.wrap ((v : Int) * 256) + IntKind.u64.wrap (c.toNat : Int)) = ((v * 256 + c.toNat : Nat) : Int) := by
  have hc := c.toNat_lt
  rw [IntKind.wrap_u64, IntKind.wrap_u64, IntKind.wrap_u64]; omega

theorem ret_fe {a b : Nat} {x y : Int} (h1 : a = b) (h2 : x = y) : Ending.returned (.tuple #[.float .f64 a, .int .i64 x]) = .returned (.tuple #[.float .f64 b, .int .i64 y]) := by rw [h1, h2]
/-- What Read answers. -/
def rdF (s : ByteArray) : Nat := if s.size = 8 then (if rawB (valOf s.data.toList) = valOf s.data.toList then valOf s.data.toList else 0) else 0
def rdE (s : ByteArray) : Int := if s.size < 8 then 4 else if s.size = 8 then (if rawB (valOf s.data.toList) = valOf s.data.toList then 0 else 5) else 5
theorem int_bne_t (a b : Nat) (h : ¬ a = b) : ((a : Int) != (b : Int)) = true := by rw [bne_iff_ne]; omega
theorem int_bne_f (a b : Nat) (h : a = b) : ((a : Int) != (b : Int)) = false := by rw [bne_eq_false_iff_eq]; omega

set_option maxRecDepth 100000 in
theorem read_8 (s : ByteArray) (hs : s.size = 8) (w : World) : Calls Try.prog 33 #[.string s] w fun e w' => e = .returned (.tuple #[.float .f64 (rdF s), .int .i64 (rdE s)]) ∧ w = w' := by
  have hF : rdF s = if rawB (valOf s.data.toList) = valOf s.data.toList then valOf s.data.toList else 0 := by unfold rdF; rw [if_pos hs]
  have hE : rdE s = if rawB (valOf s.data.toList) = valOf s.data.toList then 0 else 5 := by unfold rdE; rw [if_neg (by omega), if_pos hs]
  have HF := Lib.hid hF
  have HE := Lib.hid hE
  have HS := Lib.hid hs
  have hle : 8 ≤ s.size := by omega
  have hge : s.size ≤ 8 := by omega
  have hfull : s.data.toList.take 8 = s.data.toList := List.take_of_length_le (by simpa using hge)
  have HT := Lib.hid hfull
  clear hs hF hE hfull
  go_enter Try.func33, Try.ntmps33
  go_wp2_with fail
  go_loop [4, 15] (fun n i => ∃ k : Nat, k ≤ 8 ∧ i = .int .i64 k ∧ n = .int .u64 (valOf (s.data.toList.take k) : Nat)) (fun _ i => 8 - (intOf i).toNat)
  case atStart => exact ⟨0, Nat.zero_le _, rfl, rfl⟩
  case round =>
    obtain ⟨k, hk, rfl, rfl⟩ := hrel
    by_cases hlt : k < 8
    · have hks : k < s.size := by omega
      have H1 := Lib.hid (or_byte (valOf (s.data.toList.take k)) s[k] (val_take s k hlt))
      have H2 := Lib.hid (val_snoc (s.data.toList.take k) s[k])
      have H3 := Lib.hid (take_snoc s k hks)
      go_wp2_with fail
      go_round
      case rel => exact ⟨k + 1, by omega, by go_num, by rw [H3.out, H2.out]; exact congrArg _ H1.out⟩
      case measure => simp [intOf]; omega
    · have hfk : s.data.toList.take k = s.data.toList := by rw [show k = 8 by omega]; exact HT.out
      rw [hfk]
      clear hfk
      have c := raw_c (valOf s.data.toList)
      have hbt := int_bne_t (rawB (valOf s.data.toList)) (valOf s.data.toList)
      have hbf := int_bne_f (rawB (valOf s.data.toList)) (valOf s.data.toList)
      generalize rawB (valOf s.data.toList) = r at *
      generalize valOf s.data.toList = v at *
      by_cases hrv : r = v
      · have HB := Lib.hid (hbf hrv)
        have HR := Lib.hid hrv
        clear hbt hbf hrv
        go_upto_if 31 with (go_at_call 63; refine (c _).mono ?_; rintro e w' ⟨rfl, rfl⟩)
        rw [HB.out]
        go_wp2
        go_ret2
        exact ⟨ret_fe (by rw [HF.out, if_pos HR.out]) (by rw [HE.out, if_pos HR.out]), rfl⟩
      · have HB := Lib.hid (hbt hrv)
        have HR := Lib.hid hrv
        clear hbt hbf hrv
        go_upto_if 31 with (go_at_call 63; refine (c _).mono ?_; rintro e w' ⟨rfl, rfl⟩)
        rw [HB.out]
        go_wp2
        go_ret2
        exact ⟨ret_fe (by rw [HF.out, if_neg HR.out]) (by rw [HE.out, if_neg HR.out]), rfl⟩

theorem read_c (s : ByteArray) (w : World) : Calls Try.prog 33 #[.string s] w fun e w' => e = .returned (.tuple #[.float .f64 (rdF s), .int .i64 (rdE s)]) ∧ w = w' := by
  by_cases h8 : s.size = 8
  · exact read_8 s h8 w
  · have hF : rdF s = 0 := by unfold rdF; rw [if_neg h8]
    by_cases hlt : s.size < 8
    · have hE : rdE s = 4 := by unfold rdE; rw [if_pos hlt]
      rw [hF, hE]
      clear hF hE h8
      go_enter Try.func33, Try.ntmps33
      go_wp2
      go_ret2
      exact ⟨rfl, rfl⟩
    · have hE : rdE s = 5 := by unfold rdE; rw [if_neg hlt, if_neg h8]
      have hgt : 8 < s.size := by omega
      rw [hF, hE]
      clear hF hE h8
      go_enter Try.func33, Try.ntmps33
      go_wp2
      go_ret2
      exact ⟨rfl, rfl⟩

set_option maxRecDepth 100000 in
theorem rread_ge (s : ByteArray) (hle : 8 ≤ s.size) (w : World) : Calls Try.prog 34 #[.string s] w fun e w' => e = .returned (.tuple #[.float .f64 (rdF s), .int .i64 (rdE s)]) ∧ w = w' := by
  have hF : s.size = 8 → rdF s = if rawB (valOf s.data.toList) = valOf s.data.toList then valOf s.data.toList else 0 := fun hs => by unfold rdF; rw [if_pos hs]
  have hE : s.size = 8 → rdE s = if rawB (valOf s.data.toList) = valOf s.data.toList then 0 else 5 := fun hs => by unfold rdE; rw [if_neg (by omega), if_pos hs]
  have hF' : 8 < s.size → rdF s = 0 := fun hs => by unfold rdF; rw [if_neg (by omega)]
  have hE' : 8 < s.size → rdE s = 5 := fun hs => by unfold rdE; rw [if_neg (by omega), if_neg (by omega)]
  have hfull : s.size ≤ 8 → s.data.toList.take 8 = s.data.toList := fun h => List.take_of_length_le (by simpa using h)
  have HT := Lib.hid hfull
  have HF := Lib.hid hF
  have HE := Lib.hid hE
  have HF' := Lib.hid hF'
  have HE' := Lib.hid hE'
  clear hF hE hF' hE' hfull
  go_enter Try.func34, Try.ntmps34
  go_wp2_with fail
  go_loop [4, 5] (fun n i => ∃ k : Nat, k ≤ 8 ∧ i = .int .i64 k ∧ n = .int .u64 (valOf (s.data.toList.take k) : Nat)) (fun _ i => 8 - (intOf i).toNat)
  case atStart => exact ⟨0, Nat.zero_le _, rfl, rfl⟩
  case round =>
    obtain ⟨k, hk, rfl, rfl⟩ := hrel
    by_cases hlt : k < 8
    · have hks : k < s.size := by omega
      have H1 := Lib.hid (mul_byte (valOf (s.data.toList.take k)) s[k] (val_take s k hlt))
      have H2 := Lib.hid (val_snoc (s.data.toList.take k) s[k])
      have H3 := Lib.hid (take_snoc s k hks)
      go_wp2_with fail
      go_round
      case rel => exact ⟨k + 1, by omega, by go_num, by rw [H3.out, H2.out]; exact congrArg _ H1.out⟩
      case measure => simp [intOf]; omega
    · have hfk : s.size ≤ 8 → s.data.toList.take k = s.data.toList := by rw [show k = 8 by omega]; exact HT.out
      have HK := Lib.hid hfk
      clear hfk
      by_cases hgt : 8 < s.size
      · have hd : decide ((8 : Int) < (s.size : Int)) = true := decide_eq_true (by omega)
        generalize valOf (s.data.toList.take k) = v at *
        have hlt' : ¬ (k : Int) < 8 := by omega
        clear hle hlt HK
        go_wp2_with (go_at_call 68; refine (rbits_c _ _).mono ?_; rintro e w' ⟨rfl, rfl⟩)
        go_ret2
        exact ⟨ret_fe (by rw [HF'.out hgt]) (by rw [HE'.out hgt]), rfl⟩
      · have hs : s.size = 8 := by omega
        rw [HK.out (by omega)]
        have HFs := Lib.hid (HF.out hs)
        have HEs := Lib.hid (HE.out hs)
        have c := rbits_c (valOf s.data.toList)
        have hbt := int_bne_t (rawB (valOf s.data.toList)) (valOf s.data.toList)
        have hbf := int_bne_f (rawB (valOf s.data.toList)) (valOf s.data.toList)
        generalize rawB (valOf s.data.toList) = r at *
        generalize valOf s.data.toList = v at *
        clear HF HE HF' HE' HT HK hs hle
        by_cases hrv : r = v
        · have hb := hbf hrv
          have HR := Lib.hid hrv
          clear hbt hbf hrv
          go_wp2_with (go_at_call 68; refine (c _).mono ?_; rintro e w' ⟨rfl, rfl⟩)
          go_ret2
          exact ⟨ret_fe (by rw [HFs.out, if_pos HR.out]) (by rw [HEs.out, if_pos HR.out]), rfl⟩
        · have hb := hbt hrv
          have HR := Lib.hid hrv
          clear hbt hbf hrv
          go_wp2_with (go_at_call 68; refine (c _).mono ?_; rintro e w' ⟨rfl, rfl⟩)
          go_ret2
          exact ⟨ret_fe (by rw [HFs.out, if_neg HR.out]) (by rw [HEs.out, if_neg HR.out]), rfl⟩

theorem rread_c (s : ByteArray) (w : World) : Calls Try.prog 34 #[.string s] w fun e w' => e = .returned (.tuple #[.float .f64 (rdF s), .int .i64 (rdE s)]) ∧ w = w' := by
  by_cases hlt : s.size < 8
  · have hF : rdF s = 0 := by unfold rdF; rw [if_neg (by omega)]
    have hE : rdE s = 4 := by unfold rdE; rw [if_pos hlt]
    rw [hF, hE]
    clear hF hE
    go_enter Try.func34, Try.ntmps34
    go_wp2
    go_ret2
    exact ⟨rfl, rfl⟩
  · exact rread_ge s (by omega) w
end Go.Proofs.Ytngjfeielpnnnaa
