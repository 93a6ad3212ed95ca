/-
  almonrylaw05.FloatKeys and FloatBack answer true: the walks.
-/
import Derived.Test.YtngjfeielpnnnaaFloatAwake
import Derived.Test.YtngjfeielpnnnaaFloatPut2
namespace Go.Proofs.Ytngjfeielpnnnaa
open Go.RowKit
open FloatPlain
set_option linter.unusedVariables false
set_option linter.unusedSimpArgs false
attribute [local go_sem] run_frombits run_bits u64_signed

theorem same_refl (a : Nat) (w : World) : Calls Try.prog 16 #[.float .f64 a, .float .f64 a] w fun e w' => e = .returned (.bool true) ∧ w = w' := by
  have h := same_c a a w
  rw [decide_eq_true rfl] at h
  exact h

set_option maxHeartbeats 2000000 in
set_option maxRecDepth 100000 in
theorem keys_walk (x k : Nat) (s : ByteArray) (hx : W64 x) (hk : W64 k) (w : World) :
    Calls Try.prog 7 #[.float .f64 x, .int .u64 k, .string s] w fun e w' => e = .returned (.bool true) ∧ Below w.heap.size w w' := by
  have haw := awake05_c
  by_cases hs : 100 < s.size
  · have hsi : (100 : Int) < (s.size : Int) := by omega
    go_enter Try.func7, Try.ntmps7
    go_wp2_with (go_at_call 19; refine (haw _).mono ?_; rintro e w9 ⟨rfl, hb9⟩)
    go_ret
    exact ⟨rfl, hb9⟩
  · have c1 := read_c s
    have c2 := rread_c s
    have c3 := key_c x hx
    have c4 := rkey_c x hx
    have c5 := of_c k hk
    have c6 := rof_c k hk
    have c7 := put_c x
    have c8 := rput_c x
    have c9 := clean_c x
    have c10 := rclean_c x
    have c11 := same_refl
    generalize rdF s = a1 at *
    generalize rdE s = a2 at *
    generalize keyB x = a3 at *
    generalize ofB k = a4 at *
    generalize strOfNums (be8 (rawB x)) = a5 at *
    generalize rawB x = a6 at *
    clear hx hk
    go_enter Try.func7, Try.ntmps7
    go_wp2_with (first | (go_at_call 33; refine (c1 _).mono ?_; rintro e w' ⟨rfl, rfl⟩) | (go_at_call 34; refine (c2 _).mono ?_; rintro e w' ⟨rfl, rfl⟩) | (go_at_call 35; refine (c3 _).mono ?_; rintro e w' ⟨rfl, rfl⟩) | (go_at_call 36; refine (c4 _).mono ?_; rintro e w' ⟨rfl, rfl⟩) | (go_at_call 37; refine (c5 _).mono ?_; rintro e w' ⟨rfl, rfl⟩) | (go_at_call 38; refine (c6 _).mono ?_; rintro e w' ⟨rfl, rfl⟩) | (go_at_call 39; refine (c7 _).mono ?_; rintro e w7 ⟨rfl, hb7⟩; have HB7 := Lib.hid hb7; clear hb7) | (go_at_call 40; refine (c8 _).mono ?_; rintro e w8 ⟨rfl, hb8⟩; have HB8 := Lib.hid hb8; clear hb8) | (go_at_call 17; refine (c9 _).mono ?_; rintro e w' ⟨rfl, rfl⟩) | (go_at_call 41; refine (c10 _).mono ?_; rintro e w' ⟨rfl, rfl⟩) | (go_at_call 16; refine (c11 _ _).mono ?_; rintro e w' ⟨rfl, rfl⟩) | (go_at_call 19; refine (haw _).mono ?_; rintro e w9 ⟨rfl, hb9⟩))
    go_ret
    exact ⟨rfl, HB7.out.trans ((HB8.out.mono HB7.out.size).trans (hb9.mono (Nat.le_trans HB7.out.size HB8.out.size)))⟩

theorem ofB_key (x : Nat) (hx : W64 x) : ofB (keyB x) = rawB x := by
  have hr := rawB_lt hx
  have h2 := rawB_raw x
  unfold ofB keyB
  generalize rawB x = r at *
  by_cases h : r < 9223372036854775808
  · rw [if_pos h, if_pos (by omega), Nat.add_sub_cancel]; exact h2
  · rw [if_neg h, if_neg (by omega), show 18446744073709551615 - (18446744073709551615 - r) = r by omega]; exact h2

theorem byte_at (r d : Nat) : (UInt8.ofNat (((r : Int) / (d : Int) % 256).toNat)).toNat = r / d % 256 := by
  have e : (r : Int) / (d : Int) % 256 = ((r / d % 256 : Nat) : Int) := by rw [Int.natCast_emod, Int.natCast_ediv]; rfl
  rw [e, Int.toNat_natCast, UInt8.toNat_ofNat']
  exact Nat.mod_eq_of_lt (Nat.mod_lt _ (by decide))
theorem byte_at1 (r : Nat) : (UInt8.ofNat (((r : Int) % 256).toNat)).toNat = r % 256 := by
  have e : (r : Int) % 256 = ((r % 256 : Nat) : Int) := by rw [Int.natCast_emod]; rfl
  rw [e, Int.toNat_natCast, UInt8.toNat_ofNat']
  exact Nat.mod_eq_of_lt (Nat.mod_lt _ (by decide))
theorem be8_byte (r : Nat) (hr : r < 18446744073709551616) : valOf (strOfNums (be8 r)).data.toList = r := by
  rw [strOfNums_data]
  have b7 := byte_at r 72057594037927936
  have b6 := byte_at r 281474976710656
  have b5 := byte_at r 1099511627776
  have b4 := byte_at r 4294967296
  have b3 := byte_at r 16777216
  have b2 := byte_at r 65536
  have b1 := byte_at r 256
  have b0 := byte_at1 r
  have q1 : r / 65536 = r / 256 / 256 := (Nat.div_div_eq_div_mul r 256 256).symm
  have q2 : r / 16777216 = r / 65536 / 256 := (Nat.div_div_eq_div_mul r 65536 256).symm
  have q3 : r / 4294967296 = r / 16777216 / 256 := (Nat.div_div_eq_div_mul r 16777216 256).symm
  have q4 : r / 1099511627776 = r / 4294967296 / 256 := (Nat.div_div_eq_div_mul r 4294967296 256).symm
  have q5 : r / 281474976710656 = r / 1099511627776 / 256 := (Nat.div_div_eq_div_mul r 1099511627776 256).symm
  have q6 : r / 72057594037927936 = r / 281474976710656 / 256 := (Nat.div_div_eq_div_mul r 281474976710656 256).symm
  have hq : r / 72057594037927936 < 256 := Nat.div_lt_of_lt_mul hr
  show (((((((0 * 256 + (UInt8.ofNat (((r : Int) / (72057594037927936 : Nat) % 256).toNat)).toNat) * 256 + (UInt8.ofNat (((r : Int) / (281474976710656 : Nat) % 256).toNat)).toNat) * 256 + (UInt8.ofNat (((r : Int) / (1099511627776 : Nat) % 256).toNat)).toNat) * 256 + (UInt8.ofNat (((r : Int) / (4294967296 : Nat) % 256).toNat)).toNat) * 256 + (UInt8.ofNat (((r : Int) / (16777216 : Nat) % 256).toNat)).toNat) * 256 + (UInt8.ofNat (((r : Int) / (65536 : Nat) % 256).toNat)).toNat) * 256 + (UInt8.ofNat (((r : Int) / (256 : Nat) % 256).toNat)).toNat) * 256 + (UInt8.ofNat (((r : Int) % 256).toNat)).toNat = r
  rw [b7, b6, b5, b4, b3, b2, b1, b0]
  clear b7 b6 b5 b4 b3 b2 b1 b0
  generalize r / 72057594037927936 = x7 at *
  generalize r / 281474976710656 = x6 at *
  generalize r / 1099511627776 = x5 at *
  generalize r / 4294967296 = x4 at *
  generalize r / 16777216 = x3 at *
  generalize r / 65536 = x2 at *
  generalize hx1 : r / 256 = x1 at *
  omega
theorem be8_size (r : Nat) : (strOfNums (be8 r)).size = 8 := by rw [strOfNums_size]; rfl
theorem rd_put (x : Nat) (hx : W64 x) : rdF (strOfNums (be8 (rawB x))) = rawB x ∧ rdE (strOfNums (be8 (rawB x))) = 0 := by
  have hv := be8_byte (rawB x) (rawB_lt hx)
  have hs := be8_size (rawB x)
  unfold rdF rdE
  rw [hs, hv, rawB_raw]
  simp

theorem bytes8 (s : ByteArray) (h : s.size = 8) : ∃ c0 c1 c2 c3 c4 c5 c6 c7 : UInt8, s = ⟨#[c0, c1, c2, c3, c4, c5, c6, c7]⟩ := by
  obtain ⟨⟨l⟩⟩ := s
  have hl : l.length = 8 := h
  match l, hl with
  | [c0, c1, c2, c3, c4, c5, c6, c7], _ => exact ⟨c0, c1, c2, c3, c4, c5, c6, c7, rfl⟩
theorem ofNat_eq (c : UInt8) (n : Nat) (h : n = c.toNat) : UInt8.ofNat n = c := by subst h; simp
theorem put_rd (s : ByteArray) (h : rdE s = 0) : strOfNums (be8 (rawB (rdF s))) = s := by
  unfold rdE at h
  by_cases h1 : s.size < 8
  · rw [if_pos h1] at h; cases h
  · rw [if_neg h1] at h
    by_cases h8 : s.size = 8
    · rw [if_pos h8] at h
      by_cases hr : rawB (valOf s.data.toList) = valOf s.data.toList
      · unfold rdF
        rw [if_pos h8, if_pos hr, hr]
        obtain ⟨c0, c1, c2, c3, c4, c5, c6, c7, rfl⟩ := bytes8 s h8
        have b0 := c0.toNat_lt; have b1 := c1.toNat_lt; have b2 := c2.toNat_lt; have b3 := c3.toNat_lt
        have b4 := c4.toNat_lt; have b5 := c5.toNat_lt; have b6 := c6.toNat_lt; have b7 := c7.toNat_lt
        have e : valOf (⟨#[c0, c1, c2, c3, c4, c5, c6, c7]⟩ : ByteArray).data.toList = ((((((((0 * 256 + c0.toNat) * 256 + c1.toNat) * 256 + c2.toNat) * 256 + c3.toNat) * 256 + c4.toNat) * 256 + c5.toNat) * 256 + c6.toNat) * 256 + c7.toNat) := rfl
        rw [e]
        unfold be8 strOfNums
        simp only [List.map_cons, List.map_nil]
        congr 1
        refine congrArg List.toArray ?_
        refine congr (congrArg List.cons (ofNat_eq _ _ (by omega))) (congr (congrArg List.cons (ofNat_eq _ _ (by omega))) (congr (congrArg List.cons (ofNat_eq _ _ (by omega))) (congr (congrArg List.cons (ofNat_eq _ _ (by omega))) (congr (congrArg List.cons (ofNat_eq _ _ (by omega))) (congr (congrArg List.cons (ofNat_eq _ _ (by omega))) (congr (congrArg List.cons (ofNat_eq _ _ (by omega))) (congr (congrArg List.cons (ofNat_eq _ _ (by omega))) rfl)))))))
      · rw [if_neg hr] at h; cases h
    · rw [if_neg h8] at h; cases h

set_option maxHeartbeats 2000000 in
set_option maxRecDepth 100000 in
theorem back_walk (x : Nat) (s : ByteArray) (hx : W64 x) (w : World) :
    Calls Try.prog 8 #[.int .u64 x, .string s] w fun e w' => e = .returned (.bool true) ∧ Below w.heap.size w w' := by
  have haw := awake05_c
  by_cases hs : 100 < s.size
  · have hsi : (100 : Int) < (s.size : Int) := by omega
    go_enter Try.func8, Try.ntmps8
    go_wp2_with (go_at_call 19; refine (haw _).mono ?_; rintro e w9 ⟨rfl, hb9⟩)
    go_ret
    exact ⟨rfl, hb9⟩
  · have c1 := read_c s
    have c2 := read_c (strOfNums (be8 (rawB x)))
    obtain ⟨r1, r2⟩ := rd_put x hx
    rw [r1, r2] at c2
    have c3 := key_c x hx
    have c5 := of_c (keyB x) (keyB_lt hx)
    rw [ofB_key x hx] at c5
    have c7 := put_c x
    have c9 := clean_c x
    have c11 := same_refl
    have hE : rdE s = 0 → strOfNums (be8 (rawB (rdF s))) = s := put_rd s
    have c8 := put_c (rdF s)
    clear hx r1 r2
    generalize rdF s = a1 at *
    generalize keyB x = a3 at *
    generalize strOfNums (be8 (rawB x)) = a5 at *
    generalize rawB x = a6 at *
    by_cases he : rdE s = 0
    · have hE := hE he
      rw [hE] at c8
      rw [he] at c1
      clear hE he
      go_enter Try.func8, Try.ntmps8
      go_wp2_with fail
      refine (c7 _).mono ?_
      rintro e w7 ⟨rfl, hb7⟩
      have HB7 := Lib.hid hb7
      clear hb7
      go_wp2_with fail
      refine (c2 _).mono ?_
      rintro e w' ⟨rfl, rfl⟩
      go_wp2_with fail
      refine (c1 _).mono ?_
      rintro e w' ⟨rfl, rfl⟩
      go_wp2_with (first | (go_at_call 35; refine (c3 _).mono ?_; rintro e w' ⟨rfl, rfl⟩) | (go_at_call 37; refine (c5 _).mono ?_; rintro e w' ⟨rfl, rfl⟩) | (go_at_call 39; refine (c8 _).mono ?_; rintro e w8 ⟨rfl, hb8⟩; have HB8 := Lib.hid hb8; clear hb8) | (go_at_call 17; refine (c9 _).mono ?_; rintro e w' ⟨rfl, rfl⟩) | (go_at_call 16; refine (c11 _ _).mono ?_; rintro e w' ⟨rfl, rfl⟩) | (go_at_call 19; refine (haw _).mono ?_; rintro e w9 ⟨rfl, hb9⟩))
      go_ret
      exact ⟨rfl, HB7.out.trans ((HB8.out.mono HB7.out.size).trans (hb9.mono (Nat.le_trans HB7.out.size HB8.out.size)))⟩
    · have hne : (rdE s != 0) = true := by rw [bne_iff_ne]; exact he
      clear hE he c8
      generalize rdE s = a2 at *
      go_enter Try.func8, Try.ntmps8
      go_wp2_with fail
      refine (c7 _).mono ?_
      rintro e w7 ⟨rfl, hb7⟩
      have HB7 := Lib.hid hb7
      clear hb7
      go_wp2_with fail
      refine (c2 _).mono ?_
      rintro e w' ⟨rfl, rfl⟩
      go_wp2_with fail
      refine (c1 _).mono ?_
      rintro e w' ⟨rfl, rfl⟩
      go_wp2_with (first | (go_at_call 35; refine (c3 _).mono ?_; rintro e w' ⟨rfl, rfl⟩) | (go_at_call 37; refine (c5 _).mono ?_; rintro e w' ⟨rfl, rfl⟩) | (go_at_call 17; refine (c9 _).mono ?_; rintro e w' ⟨rfl, rfl⟩) | (go_at_call 16; refine (c11 _ _).mono ?_; rintro e w' ⟨rfl, rfl⟩) | (go_at_call 19; refine (haw _).mono ?_; rintro e w9 ⟨rfl, hb9⟩))
      go_ret
      exact ⟨rfl, HB7.out.trans (hb9.mono HB7.out.size)⟩
end Go.Proofs.Ytngjfeielpnnnaa
