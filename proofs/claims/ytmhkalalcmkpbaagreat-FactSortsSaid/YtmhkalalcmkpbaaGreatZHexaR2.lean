/-
  Hexa HexaR HexaR2
-/
import Derived.Test.YtmhkalalcmkpbaaGreatZWireListR
import Derived.Laws.RangeString
import Derived.Laws.MakeOwn
import Derived.Deep.RegionHeld3
import Derived.Deep.DrawnRows
namespace Go.Proofs.YtmhkalalcmkpbaaGreat
open Go.RowKit
set_option linter.unusedVariables false
set_option linter.unusedSimpArgs false

/-- The digit of a number, and the number of a digit. -/
def dig (k : Nat) : Nat := if k < 10 then 48 + k else 87 + k
def isHex (c : Nat) : Bool := (48 ≤ c && c ≤ 57) || (97 ≤ c && c ≤ 102)
def hexV (c : Nat) : Nat := if 48 ≤ c ∧ c ≤ 57 then c - 48 else c - 87
theorem dig_hex : ∀ k : Fin 16, isHex (dig k.val) = true ∧ hexV (dig k.val) = k.val := by decide
theorem hex_dig (c : Nat) (h : isHex c = true) : hexV c < 16 ∧ dig (hexV c) = c := by
  unfold isHex at h
  simp only [Bool.or_eq_true, Bool.and_eq_true, decide_eq_true_eq] at h
  unfold hexV dig
  split <;> split <;> omega
def digs : ByteArray := ⟨#[48, 49, 50, 51, 52, 53, 54, 55, 56, 57, 97, 98, 99, 100, 101, 102]⟩
theorem digs_at : ∀ k : Fin 16, (digs[k.val]'(by show k.val < 16; exact k.isLt)).toNat = dig k.val := by decide

/-- Where a string's iterator stands. -/
def iterAt (w : World) (b : Nat) : Nat := match w.heap[b]? with
  | some (.stringIter _ p) => p
  | _ => 0
theorem iterAt_iter (w : World) (s : ByteArray) (p : Nat) : iterAt (w.iter s p) w.heap.size = p := by unfold iterAt; rw [World.iter_heap]
set_option maxHeartbeats 1000000 in
set_option maxRecDepth 100000 in
theorem half_c (c : Nat) (hc : c < 256) (w : World) : Calls Tryz.prog 103 #[.int .u8 c] w fun e w' => (∃ n : Nat, e = .returned (.tuple #[.int .u8 n, .bool (isHex c)]) ∧ n < 256) ∧ Below w.heap.size w w' := by
  have HSZ : digs.size = 16 := rfl
  have HNX : Hid (∀ (k : Nat) (hk : k < 16) (ty : TypeId), (Instr.next (.pointer (some ⟨w.heap.size, 0, none⟩)) true ty).run Tryz.prog (w.iter digs k) = .ok (.tuple #[.bool true, .int .i64 k, .int .i32 (dig k)]) (w.iter digs (k + 1))) := fun k hk ty => by
    have ha := digs_at ⟨k, hk⟩
    have hd : dig k < 128 := by unfold dig; split <;> omega
    have h := run_next_ascii (P := Tryz.prog) w digs k ty (by show k < 16; exact hk) (by rw [ha]; exact hd)
    rw [ha] at h
    exact h
  have HNE : Hid (∀ (ty : TypeId), (Instr.next (.pointer (some ⟨w.heap.size, 0, none⟩)) true ty).run Tryz.prog (w.iter digs 16) = .ok (.tuple #[.bool false]) (w.iter digs 16)) := fun ty => run_next_end (P := Tryz.prog) w digs 16 ty (by show ¬ 16 < 16; decide)
  have HB : Hid (∀ k, Below w.heap.size w (w.iter digs k)) := fun k => (Below.refl _ _).alloc (Nat.le_refl _) _
  clear HSZ
  go_enter Tryz.func103, Tryz.ntmps103
  go_wp2_with fail
  rw [show (ByteArray.mk #[48, 49, 50, 51, 52, 53, 54, 55, 56, 57, 97, 98, 99, 100, 101, 102]) = digs from rfl]
  generalize hD : digs = D at *
  clear hD
  go_loopw [4, 5] (fun _ _ wr => ∃ k : Nat, k ≤ 16 ∧ wr = w.iter D k ∧ Hid (∀ j, j < k → dig j ≠ c)) (fun _ _ wr => 16 - iterAt wr w.heap.size)
  case atStart => exact ⟨0, by omega, rfl, fun j hj => by omega⟩
  case round =>
    obtain ⟨k, hk, rfl, HJ⟩ := hrel
    by_cases hlt : k < 16
    · have hnx := HNX.out k hlt
      have hdg : dig k < 128 := by unfold dig; split <;> omega
      by_cases he : dig k = c
      · have HE : Hid (isHex c = true) := by show _ = _; rw [← he]; exact (dig_hex ⟨k, hlt⟩).1
        have hb : (((dig k : Nat) : Int) == (c : Int)) = true := by rw [he]; simp
        have HK : Hid (k < 256) := by show _ < _; omega
        clear he HJ
        go_wp2_with fail
        go_ret2
        exact ⟨⟨k, by rw [HE.out]; rfl, HK.out⟩, HB.out _⟩
      · have hb : (((dig k : Nat) : Int) == (c : Int)) = false := by rw [beq_eq_false_iff_ne]; omega
        have HJ2 : Hid (∀ j, j < k + 1 → dig j ≠ c) := fun j hj => by
          rcases Nat.lt_or_ge j k with g | g
          · exact HJ.out j g
          · obtain rfl : j = k := by omega
            exact he
        clear he HJ
        go_wp2_with fail
        go_roundw
        case rel => exact ⟨k + 1, by omega, rfl, HJ2⟩
        case measure => (rw [iterAt_iter, iterAt_iter]; omega)
    · obtain rfl : k = 16 := by omega
      have hne := HNE.out
      have HE : Hid (isHex c = false) := by
        show _ = _
        cases h : isHex c with
        | false => rfl
        | true =>
          obtain ⟨h1, h2⟩ := hex_dig c h
          exact absurd h2 (HJ.out _ h1)
      clear HJ
      go_wp2_with fail
      go_ret2
      exact ⟨⟨0, by rw [HE.out]; rfl, by omega⟩, HB.out _⟩

/-- Why a text is no digits. -/
def allHex (l : List UInt8) : Bool := l.all fun c => isHex c.toNat
def hexE (s : ByteArray) : Int := if s.size % 2 = 1 then 5 else if allHex s.data.toList = true then 0 else 5
def idE (s : ByteArray) : Int := if hexE s = 0 ∧ s.size = 64 then 0 else 5
theorem make_u8 (n : Nat) (hn : n < 1000000000) (w : World) : (Instr.makeSlice 46 (.int .i64 0) (.int .i64 (n : Int))).run Tryz.prog w = .ok (.slice (some ⟨w.heap.size, 0, none⟩) 0 n) (w.alloc (.cells (madeCells #[.int .u8 0] n) 5)) := by
  obtain ⟨i, hi, hz, hsz, hby⟩ := info_parts info8
  have hb : (i.bytes : Int) * (n : Int) ≤ 281474976710656 := by rw [hby]; omega
  have h := run_make (P := Tryz.prog) w 46 5 i (.int .u8 0) slice8 hi hz .i64 .i64 0 (n : Int) (by omega) (by omega) hb (by omega)
  simp only [Int.toNat_natCast, hsz, Nat.mul_one] at h
  exact h
theorem conv_any (w : World) (base : Nat) (v : Value) (n : Nat) (xs : List Int) (hn : xs.length = n) (hown : w.ownsRow base 5 1 v n (xs.map (Value.int .u8))) :
    ∃ t, (convert 46 9 v).run Tryz.prog w = .ok (.string t) w := by
  rcases Nat.eq_zero_or_pos n with h0 | h0
  · subst h0
    have hx : xs = [] := List.eq_nil_of_length_eq_zero hn
    subst hx
    rcases hown.2 with ⟨rfl, _⟩ | ⟨g, cap, cur, rfl, _⟩
    · exact ⟨⟨#[]⟩, by kernel_rfl⟩
    · refine ⟨_, run_convert_bytes_arg (P := Tryz.prog) w 46 5 slice8 (by kernel_rfl) g 0 0 cap [] rfl (fun i hi => by omega) 9 (by kernel_rfl)⟩
  · exact ⟨_, conv_own w base v n xs hn h0 hown⟩
theorem allHex_two (t : ByteArray) (h : 2 ≤ t.size) : allHex t.data.toList = (isHex (t[0]'(by omega)).toNat && isHex (t[1]'(by omega)).toNat && allHex (t.extract 2 t.size).data.toList) := by
  rw [ext_data]
  have hl : 2 ≤ t.data.toList.length := by rw [size_data]; exact h
  have e0 : t[0]'(by omega) = t.data.toList.getD 0 0 := at_get t 0 (by omega)
  have e1 : t[1]'(by omega) = t.data.toList.getD 1 0 := at_get t 1 (by omega)
  rw [e0, e1]
  generalize t.data.toList = l at *
  match l, hl with
  | a :: b :: r, _ => simp [allHex, Bool.and_assoc]

/-- A text's length. -/
def sizeV : Value → Nat
  | .string s => s.size
  | _ => 0
set_option maxHeartbeats 2000000 in
set_option maxRecDepth 100000 in
theorem hread_c (s : ByteArray) (hs : s.size < 1000000000) (w : World) : Calls Tryz.prog 100 #[.string s] w fun e w' => (∃ t, e = .returned (.tuple #[.string t, .int .i64 (hexE s)])) ∧ Below w.heap.size w w' := by
  generalize hr : hexE s = r
  have HR := Lib.hid hr
  clear hr
  by_cases hodd : s.size % 2 = 1
  · have HE : Hid (r = 5) := by show _ = _; rw [← HR.out]; unfold hexE; rw [if_pos hodd]
    have hd : (((s.size : Int) % 2) != 0) = true := by rw [bne_iff_ne]; omega
    clear HR
    go_enter Tryz.func100, Tryz.ntmps100
    go_wp2
    go_ret2
    exact ⟨⟨⟨#[]⟩, by rw [HE.out]; rfl⟩, Below.refl _ _⟩
  · have HE : Hid (r = if allHex s.data.toList = true then 0 else 5) := by show _ = _; rw [← HR.out]; unfold hexE; rw [if_neg hodd]
    have hd : (((s.size : Int) % 2) != 0) = false := by rw [bne_eq_false_iff_eq]; omega
    have hmk := make_u8 (s.size / 2) (by omega) w
    have hq : (((s.size / 2 : Nat)) : Int) = (s.size : Int) / 2 := by omega
    rw [hq] at hmk
    have HEV : Hid (s.size % 2 = 0) := by show _ = _; omega
    have HO : Hid ((w.alloc (.cells (madeCells #[.int .u8 0] (s.size / 2)) 5)).ownsRow w.heap.size 5 1 (.slice (some ⟨w.heap.size, 0, none⟩) 0 (s.size / 2)) 0 (([] : List Int).map (Value.int .u8))) :=
      World.ownsRow_made _ _ _ (Nat.le_refl _) (by simp only [maxLen]; omega) (by simp [madeCells])
    have HB : Hid (Below w.heap.size w (w.alloc (.cells (madeCells #[.int .u8 0] (s.size / 2)) 5))) := (Below.refl _ _).alloc (Nat.le_refl _) _
    clear HR hq hodd
    go_enter Tryz.func100, Tryz.ntmps100
    go_wp2_with fail
    go_loopw [0, 4, 5, 6, 7, 8] (fun vt vb _ _ _ _ wr => ∃ (t : ByteArray) (xs : List Int), vt = .string t ∧ t.size ≤ s.size ∧ t.size % 2 = 0 ∧ xs.length * 2 + t.size = s.size ∧ Hid (wr.ownsRow w.heap.size 5 1 vb xs.length (xs.map (Value.int .u8))) ∧ Hid (Below w.heap.size w wr) ∧ Hid (allHex s.data.toList = allHex t.data.toList)) (fun vt _ _ _ _ _ _ => sizeV vt)
    case atStart => exact ⟨s, [], rfl, Nat.le_refl _, HEV.out, by simp, HO, HB, rfl⟩
    case round =>
      clear HO HB
      obtain ⟨t, xs, rfl, hts, htm, hxt, HO, HB, HA⟩ := hrel
      have hse := str_empty_iff t
      by_cases h0 : t.size = 0
      · rw [decide_eq_true h0] at hse
        have hse2 : t.toList = [] := by simpa using hse
        have HT : Hid (r = 0) := by
          show _ = _
          have hz : t.data.toList = [] := List.eq_nil_of_length_eq_zero (by rw [size_data]; exact h0)
          rw [HE.out, HA.out, hz]; rfl
        obtain ⟨u, hcv⟩ := conv_any wr w.heap.size _ xs.length xs rfl HO.out
        clear HE HA
        go_wp2_with fail
        go_ret2
        exact ⟨⟨u, by rw [HT.out]; rfl⟩, HB.out⟩
      · rw [decide_eq_false h0] at hse
        have hse2 : ¬ t.toList = [] := fun h => by rw [h] at hse; cases hse
        have h2 : 2 ≤ t.size := by omega
        have HA2 := Lib.hid (HA.out.trans (allHex_two t h2))
        have hk0 := fun W => half_c (t[0]'(by omega)).toNat (t[0]'(by omega)).toNat_lt W
        have hk1 := fun W => half_c (t[1]'(by omega)).toNat (t[1]'(by omega)).toNat_lt W
        have hb0 : (0 : Int) ≤ 2 ∧ (2 : Int) ≤ (t.size : Int) := by omega
        have h01 : 0 < t.size := by omega
        have h11 : 1 < t.size := by omega
        generalize hc0 : isHex (t[0]'(by omega)).toNat = b0 at *
        generalize hc1 : isHex (t[1]'(by omega)).toNat = b1 at *
        clear hc0 hc1
        go_wp2_with fail
        refine (hk0 _).mono ?_
        rintro e w3 ⟨⟨n0, rfl, hn0⟩, hb3⟩
        have HO3 := Lib.hid (own_below HO.out hb3)
        have HB3 : Hid (Below w.heap.size w w3) := HB.out.trans (hb3.mono HB.out.size)
        clear hk0 hb3
        go_wp2_with fail
        refine (hk1 _).mono ?_
        rintro e w4 ⟨⟨n1, rfl, hn1⟩, hb4⟩
        have HO4 := Lib.hid (own_below HO3.out hb4)
        have HB4 : Hid (Below w.heap.size w w4) := HB3.out.trans (hb4.mono HB3.out.size)
        clear hk1 hb4 HO3 HB3
        cases b0 with
        | false =>
          have HF : Hid (r = 5) := by show _ = _; rw [HE.out, HA2.out]; simp
          clear HE HA HA2
          go_wp2_with fail
          go_ret2
          exact ⟨⟨⟨#[]⟩, by rw [HF.out]; rfl⟩, HB4.out⟩
        | true =>
          cases b1 with
          | false =>
            have HF : Hid (r = 5) := by show _ = _; rw [HE.out, HA2.out]; simp
            clear HE HA HA2
            go_wp2_with fail
            go_ret2
            exact ⟨⟨⟨#[]⟩, by rw [HF.out]; rfl⟩, HB4.out⟩
          | true =>
            have HA3 : Hid (allHex s.data.toList = allHex (t.extract 2 t.size).data.toList) := by show _ = _; rw [HA2.out]; simp
            have hz : (t.extract 2 t.size).size = t.size - 2 := by rw [ByteArray.size_extract]; omega
            have HZ := Lib.hid hz
            clear HE HA HA2 hz
            go_wp2_with (at_builtin; refine app_one slice8 info8 rfl (by decide) (.int .u8 _) rfl HO4.out (by omega) HB4.out.size rfl _ _ rfl rfl rfl ?_; intro v5 w5 ho5 hg5)
            obtain ⟨z, HO5⟩ : ∃ z : Int, Hid (w5.ownsRow w.heap.size 5 1 v5 (xs ++ [z]).length ((xs ++ [z]).map (Value.int .u8))) := ⟨_, by show World.ownsRow _ _ _ _ _ _ _; rw [List.map_append, List.length_append]; exact ho5⟩
            have HB5 : Hid (Below w.heap.size w w5) := HB4.out.trans (below_app (Below.refl _ _) HO4.out (Nat.le_refl _) HB4.out.size hg5)
            clear ho5 hg5
            go_roundw
            case rel => exact ⟨_, xs ++ [z], rfl, by rw [HZ.out]; omega, by rw [HZ.out]; omega, by rw [HZ.out, List.length_append, List.length_singleton]; omega, HO5, HB5, HA3⟩
            case measure => show (t.extract 2 t.size).size < t.size; rw [HZ.out]; omega

set_option maxRecDepth 100000 in
theorem hcheck_c (s : ByteArray) (hs : s.size < 1000000000) (w : World) : Calls Tryz.prog 93 #[.string s] w fun e w' => e = .returned (.int .i64 (idE s)) ∧ Below w.heap.size w w' := by
  have hc := hread_c s hs w
  have hid : idE s = if hexE s = 0 ∧ s.size = 64 then 0 else 5 := rfl
  generalize idE s = r at *
  generalize hexE s = e at *
  have HR := Lib.hid hid
  clear hid
  by_cases he : e = 0
  · subst he
    by_cases hz : s.size = 64
    · have HE : Hid (r = 0) := by show _ = _; rw [HR.out, if_pos ⟨rfl, hz⟩]
      have hb : ((s.size : Int) != 64) = false := by rw [bne_eq_false_iff_eq]; omega
      clear HR hz
      go_enter Tryz.func93, Tryz.ntmps93
      go_wp2_with (go_at_call 100; refine hc.mono ?_; rintro e w' ⟨⟨t, rfl⟩, hb⟩)
      go_ret
      exact ⟨ret_int HE.out.symm, by assumption⟩
    · have HE : Hid (r = 5) := by show _ = _; rw [HR.out, if_neg (fun h => hz h.2)]
      have hb : ((s.size : Int) != 64) = true := by rw [bne_iff_ne]; omega
      clear HR hz
      go_enter Tryz.func93, Tryz.ntmps93
      go_wp2_with (go_at_call 100; refine hc.mono ?_; rintro e w' ⟨⟨t, rfl⟩, hb⟩)
      go_ret
      exact ⟨ret_int HE.out.symm, by assumption⟩
  · have HE : Hid (r = 5) := by show _ = _; rw [HR.out, if_neg (fun h => he h.1)]
    have hb : (e != 0) = true := by simpa using he
    clear HR
    go_enter Tryz.func93, Tryz.ntmps93
    go_wp2_with (go_at_call 100; refine hc.mono ?_; rintro e w' ⟨⟨t, rfl⟩, hb⟩)
    go_ret
    exact ⟨ret_int HE.out.symm, by assumption⟩
end Go.Proofs.YtmhkalalcmkpbaaGreat

namespace Go.Proofs.YtmhkalalcmkpbaaGreat
open Go.RowKit
set_option linter.unusedVariables false
set_option linter.unusedSimpArgs false

/-- What the reference's half answers. -/
def rhex (c : Nat) : Nat := if isHex c = true then hexV c else 16
set_option maxRecDepth 100000 in
theorem digit_c (n : Nat) (hn : n < 16) (w : World) : Calls Tryz.prog 104 #[.int .u8 n] w fun e w' => e = .returned (.int .u8 (dig n)) ∧ w' = w := by
  by_cases h : n < 10
  · have hd : dig n = 48 + n := if_pos h
    rw [hd]; clear hd
    have hd2 : decide ((n : Int) < 10) = true := decide_eq_true (by omega)
    go_enter Tryz.func104, Tryz.ntmps104
    go_wp2
    go_ret
    exact ⟨by simp, rfl⟩
  · have hd : dig n = 87 + n := if_neg h
    rw [hd]; clear hd
    have hd2 : decide ((n : Int) < 10) = false := decide_eq_false (by omega)
    go_enter Tryz.func104, Tryz.ntmps104
    go_wp2
    go_ret
    exact ⟨by simp, rfl⟩

set_option maxHeartbeats 1000000 in
set_option maxRecDepth 100000 in
theorem rhalf_c (c : Nat) (hc : c < 256) (w : World) : Calls Tryz.prog 101 #[.int .u8 c] w fun e w' => e = .returned (.int .u8 (rhex c)) ∧ w' = w := by
  generalize hr : rhex c = r
  have HR := Lib.hid hr
  clear hr
  go_enter Tryz.func101, Tryz.ntmps101
  go_wp2_with fail
  go_loopw [3] (fun vk wr => ∃ k : Nat, vk = .int .u8 k ∧ k ≤ 16 ∧ wr = w ∧ Hid (∀ j, j < k → dig j ≠ c)) (fun vk _ => 16 - (intOf vk).toNat)
  case atStart => exact ⟨0, rfl, by omega, rfl, fun j hj => by omega⟩
  case round =>
    obtain ⟨k, rfl, hk, rfl, HJ⟩ := hrel
    by_cases hlt : k < 16
    · have hdg := digit_c k hlt wr
      have hdd : dig k < 128 := by unfold dig; split <;> omega
      have hd3 : decide ((k : Int) < 16) = true := decide_eq_true (by omega)
      by_cases he : dig k = c
      · have HE : Hid (r = k) := by
          show _ = _
          have := dig_hex ⟨k, hlt⟩
          rw [← HR.out, ← he]; unfold rhex; rw [if_pos this.1]; exact this.2
        have hb : (((dig k : Nat) : Int) == (c : Int)) = true := by rw [he]; simp
        clear he HJ HR
        go_wp2_with fail
        refine hdg.mono ?_
        rintro e w' ⟨rfl, rfl⟩
        go_wp2_with fail
        go_ret
        exact ⟨by rw [HE.out]; rfl, rfl⟩
      · have hb : (((dig k : Nat) : Int) == (c : Int)) = false := by rw [beq_eq_false_iff_ne]; omega
        have HJ2 : Hid (∀ j, j < k + 1 → dig j ≠ c) := fun j hj => by
          rcases Nat.lt_or_ge j k with g | g
          · exact HJ.out j g
          · obtain rfl : j = k := by omega
            exact he
        clear he HJ
        go_wp2_with fail
        refine hdg.mono ?_
        rintro e w' ⟨rfl, rfl⟩
        go_wp2_with fail
        go_roundw
        case rel => exact ⟨k + 1, by go_num, by omega, trivial, HJ2⟩
        case measure => simp [intOf]; omega
    · obtain rfl : k = 16 := by omega
      have HE : Hid (r = 16) := by
        show _ = _
        rw [← HR.out]; unfold rhex
        cases h : isHex c with
        | false => simp
        | true =>
          obtain ⟨h1, h2⟩ := hex_dig c h
          exact absurd h2 (HJ.out _ h1)
      clear HJ HR
      go_wp2_with fail
      go_ret
      exact ⟨by rw [HE.out]; rfl, rfl⟩
theorem rhex_big (c : Nat) : (rhex c > 15) = (isHex c = false) := by
  unfold rhex
  cases h : isHex c with
  | false => simp
  | true =>
    have := (hex_dig c h).1
    simp; omega
end Go.Proofs.YtmhkalalcmkpbaaGreat

namespace Go.Proofs.YtmhkalalcmkpbaaGreat
open Go.RowKit
set_option linter.unusedVariables false
set_option linter.unusedSimpArgs false

theorem allHex_at (s : ByteArray) (i : Nat) (h : i + 1 < s.size) : allHex (s.data.toList.drop i) = (isHex (s[i]'(by omega)).toNat && isHex (s[i + 1]'h).toNat && allHex (s.data.toList.drop (i + 2))) := by
  have hl : i + 1 < s.data.toList.length := by rw [size_data]; exact h
  rw [at_get s i (by omega), at_get s (i + 1) h, drop_one _ _ (by omega), drop_one _ (i + 1) hl]
  simp [allHex, Bool.and_assoc]

/-- append of one element, at a step of a region that draws its order. -/
theorem step_app1 {P : Program} {t e : TypeId} {z : Value} {bytes : Nat} (ht : P.underlying t = some (.slice e)) (hinfo : (P.info? e).map (fun i => (i.zero, i.size, i.bytes)) = some (some z, 1, bytes)) (hz1 : z.cells.size = 1) (hby : bytes ≤ 24)
    {W : World} {base : Nat} {v : Value} {n : Nat} {xs : List Value} (u : Value) (hu : u.oneCell' = true) (hown : W.ownsRow base e 1 v n xs) (hl : n < 1152921504606) (hb : base ≤ W.heap.size)
    {ops : Array Oper} {o : Oper} {a : Act} {K : Act → World → Prop} {Q : Exit → Act → World → Prop} {E : Prop} (hgd : o.guard = none) (s y : Operand)
    (ho : o.op = .call { callee := .builtin .append, args := #[s, y], argTypes := #[t, t] })
    (hs : a.eval s = v) (hy : a.eval y = .slice (some ⟨W.heap.size, 0, none⟩) 1 1)
    (h : ∀ v' w', w'.ownsRow base e 1 v' (n + 1) (xs ++ [u]) → Below base W w' → K (a.put o.dst v') w') :
    if Region.wanted o (yielded ops a.tmps) = true then Oper.wp P o a (W.alloc (.cells #[u] e)) K Q else E := by
  obtain ⟨i, hi, hz, hsz, hbb⟩ := info_parts hinfo
  refine step_append_any (P := P) _ hgd s y t ho base e i z 1 bytes ht hi hz hsz hbb hz1 (by decide) v n xs hs (hown.alloc _) (W.alloc (.cells #[u] e)).heap.size (some ⟨W.heap.size, 0, none⟩) 1 1 [u] hy (reads_new W 1 1 [u] e rfl) ?_ ?_ ?_ ?_ ?_
  · intro x hx; obtain rfl : x = u := by simpa using hx
    exact hu
  · simp only [maxLen]; omega
  · have : (n + 1) * bytes ≤ (n + 1) * 24 := Nat.mul_le_mul_left _ hby
    omega
  · simp; omega
  · intro v' w' h1 h2 _
    exact h v' w' h1 (below_app ((Below.refl base W).alloc hb _) (hown.alloc _) (Nat.le_refl _) (by simp; omega) h2)

set_option maxHeartbeats 2000000 in
set_option maxRecDepth 100000 in
theorem rhread_c (s : ByteArray) (hs : s.size < 1000000000) (w : World) : Calls Tryz.prog 94 #[.string s] w fun e w' => (∃ t, e = .returned (.tuple #[.string t, .int .i64 (hexE s)])) ∧ Below w.heap.size w w' := by
  generalize hr : hexE s = r
  have HR := Lib.hid hr
  clear hr
  by_cases hodd : s.size % 2 = 1
  · have HE : Hid (r = 5) := by show _ = _; rw [← HR.out]; unfold hexE; rw [if_pos hodd]
    have hd : (((s.size : Int) % 2) == 1) = true := by rw [beq_iff_eq]; omega
    clear HR
    go_enter Tryz.func94, Tryz.ntmps94
    go_wp2
    go_ret2
    exact ⟨⟨⟨#[]⟩, by rw [HE.out]; rfl⟩, Below.refl _ _⟩
  · have HE : Hid (r = if allHex s.data.toList = true then 0 else 5) := by show _ = _; rw [← HR.out]; unfold hexE; rw [if_neg hodd]
    have hd : (((s.size : Int) % 2) == 1) = false := by rw [beq_eq_false_iff_ne]; omega
    have HEV : Hid (s.size % 2 = 0) := by show _ = _; omega
    clear HR hodd
    go_enter Tryz.func94, Tryz.ntmps94
    go_wp2_with fail
    go_loopw [4, 5] (fun vb vi wr => ∃ (i : Nat) (xs : List Int), vi = .int .i64 i ∧ i ≤ s.size ∧ i % 2 = 0 ∧ xs.length * 2 = i ∧ Hid (wr.ownsRow w.heap.size 5 1 vb xs.length (xs.map (Value.int .u8))) ∧ Hid (Below w.heap.size w wr) ∧ Hid (allHex s.data.toList = allHex (s.data.toList.drop i))) (fun _ vi _ => s.size - (intOf vi).toNat)
    case atStart => exact ⟨0, [], rfl, by omega, rfl, rfl, World.ownsRow_nil _ _ _ _, Below.refl _ _, rfl⟩
    case round =>
      obtain ⟨i, xs, rfl, his, him, hxi, HO, HB, HA⟩ := hrel
      have hw1 : wrap64 ((i : Int) + 1) = (i : Int) + 1 := by unfold wrap64; omega
      by_cases hlt : i + 1 < s.size
      · have hd2 : decide ((i : Int) + 1 < (s.size : Int)) = true := decide_eq_true (by omega)
        have HA2 := Lib.hid (HA.out.trans (allHex_at s i hlt))
        have k0 := fun W => rhalf_c (s[i]'(by omega)).toNat (s[i]'(by omega)).toNat_lt W
        have k1 := fun W => rhalf_c (s[i + 1]'hlt).toNat (s[i + 1]'hlt).toNat_lt W
        have k0s := fun W => (k0 W).mono fun e w' (h : _ ∧ w' = W) => (⟨h.1, h.2.symm⟩ : _ ∧ W = w')
        have k1s := fun W => (k1 W).mono fun e w' (h : _ ∧ w' = W) => (⟨h.1, h.2.symm⟩ : _ ∧ W = w')
        have h0 : (0 : Int) ≤ (i : Int) ∧ (i : Int) < (s.size : Int) := by omega
        have h1 : (0 : Int) ≤ (i : Int) + 1 ∧ (i : Int) + 1 < (s.size : Int) := by omega
        have hi0 : i < s.size := by omega
        have ht1 : ((i : Int) + 1).toNat = i + 1 := by omega
        have HB0 := Lib.hid (rhex_big (s[i]'(by omega)).toNat)
        have HB1 := Lib.hid (rhex_big (s[i + 1]'hlt).toNat)
        have hr0 : rhex (s[i]'(by omega)).toNat < 17 := by unfold rhex; split; (have := (hex_dig _ (by assumption)).1; omega); omega
        have hr1 : rhex (s[i + 1]'hlt).toNat < 17 := by unfold rhex; split; (have := (hex_dig _ (by assumption)).1; omega); omega
        generalize rhex (s[i]'(by omega)).toNat = r0 at *
        generalize rhex (s[i + 1]'hlt).toNat = r1 at *
        generalize isHex (s[i]'(by omega)).toNat = b0 at *
        generalize isHex (s[i + 1]'hlt).toNat = b1 at *
        cases b0 with
        | false =>
          have HF : Hid (r = 5) := by show _ = _; rw [HE.out, HA2.out]; simp
          have hg : decide ((r0 : Int) > 15) = true := decide_eq_true (by have : r0 > 15 := HB0.out.mpr rfl; omega)
          clear HE HA HA2 HB0 HB1
          go_wp2_with fail
          refine (k0s _).mono ?_
          rintro e w3 ⟨rfl, rfl⟩
          go_wp2_with fail
          go_ret2
          exact ⟨⟨⟨#[]⟩, by rw [HF.out]; rfl⟩, HB.out⟩
        | true =>
          have hg : decide ((r0 : Int) > 15) = false := decide_eq_false (by have : ¬ r0 > 15 := fun h => by have := HB0.out.mp h; cases this
                                                                            omega)
          cases b1 with
          | false =>
            have HF : Hid (r = 5) := by show _ = _; rw [HE.out, HA2.out]; simp
            have hg1 : decide ((r1 : Int) > 15) = true := decide_eq_true (by have : r1 > 15 := HB1.out.mpr rfl; omega)
            clear HE HA HA2 HB0 HB1
            go_wp2_with fail
            refine (k0s _).mono ?_
            rintro e w3 ⟨rfl, rfl⟩
            go_wp2_with fail
            refine (k1s _).mono ?_
            rintro e w3 ⟨rfl, rfl⟩
            go_wp2_with fail
            go_ret2
            exact ⟨⟨⟨#[]⟩, by rw [HF.out]; rfl⟩, HB.out⟩
          | true =>
            have hg1 : decide ((r1 : Int) > 15) = false := decide_eq_false (by have : ¬ r1 > 15 := fun h => by have := HB1.out.mp h; cases this
                                                                               omega)
            have HA3 : Hid (allHex s.data.toList = allHex (s.data.toList.drop (i + 2))) := by show _ = _; rw [HA2.out]; simp
            clear HE HA HA2 HB0 HB1
            go_wp2_with fail
            refine (k0s _).mono ?_
            rintro e w3 ⟨rfl, rfl⟩
            go_wp2_with fail
            refine (k1s _).mono ?_
            rintro e w3 ⟨rfl, rfl⟩
            go_wp2_with fail
            have hew : IntKind.i64.wrap ((i : Int) + 1) = (i : Int) + 1 := by rw [IntKind.wrap_i64]; omega
            have HO2 : Hid (wr.drew.ownsRow w.heap.size 5 1 _ xs.length (xs.map (Value.int .u8))) := HO.out
            have HB2 : Hid (Below w.heap.size w wr.drew) := below_drewN HB.out 1
            refine wp_region_held_drew (S := (fun _ => True)) (by kernel_rfl) ?_ (fun hS => ?_)
            · trivial
            refine wpAnyH_take (i := 0) (v := ?_) rfl (by kernel_rfl) (by kernel_rfl) (by kernel_rfl) (fun _ _ _ h => h) (Or.inl ⟨by rfl, ?_⟩) hS ?_
            case refine_2 =>  (intro w hSw; (try dsimp only at hSw); go_split_ands; go_simp; try (with_reducible rfl))
            try simp only [Act.put, List.setIfInBounds_toArray, List.set_cons_zero, List.set_cons_succ]
            refine wpAnyH_take (i := 1) (v := ?_) rfl (by kernel_rfl) (by kernel_rfl) (by kernel_rfl) (fun _ _ _ h => h) (Or.inl ⟨by rfl, ?_⟩) hS ?_
            case refine_2 =>  (intro w hSw; (try dsimp only at hSw); go_split_ands; go_simp; try (with_reducible rfl))
            try simp only [Act.put, List.setIfInBounds_toArray, List.set_cons_zero, List.set_cons_succ]
            refine wpAnyH_take (i := 2) (v := ?_) rfl (by kernel_rfl) (by kernel_rfl) (by kernel_rfl) (fun _ _ _ h => h) (Or.inl ⟨by rfl, ?_⟩) hS ?_
            case refine_2 =>  (intro w hSw; (try dsimp only at hSw); go_split_ands; go_simp; try (with_reducible rfl))
            try simp only [Act.put, List.setIfInBounds_toArray, List.set_cons_zero, List.set_cons_succ]
            refine wpAnyH_take (i := 3) (v := .int .u8 ((s[i]'hi0).toNat : Nat)) rfl (by kernel_rfl) (by kernel_rfl) (by kernel_rfl) (fun _ _ _ h => h) (Or.inl ⟨by rfl, ?_⟩) hS ?_
            ·  (intro w hSw; (try dsimp only at hSw); go_split_ands; go_simp; try (with_reducible rfl))
            try simp only [Act.put, List.setIfInBounds_toArray, List.set_cons_zero, List.set_cons_succ]
            refine wpAnyH_take (i := 6) (v := ?_) rfl (by kernel_rfl) (by kernel_rfl) (by kernel_rfl) (fun _ _ _ h => h) (Or.inl ⟨by rfl, ?_⟩) hS ?_
            case refine_2 =>  (intro w hSw; (try dsimp only at hSw); go_split_ands; go_simp; try (with_reducible rfl))
            try simp only [Act.put, List.setIfInBounds_toArray, List.set_cons_zero, List.set_cons_succ]
            refine wpAnyH_take (i := 7) (v := ?_) rfl (by kernel_rfl) (by kernel_rfl) (by kernel_rfl) (fun _ _ _ h => h) (Or.inl ⟨by rfl, ?_⟩) hS ?_
            case refine_2 =>  (intro w hSw; (try dsimp only at hSw); go_split_ands; go_simp; try (with_reducible rfl))
            try simp only [Act.put, List.setIfInBounds_toArray, List.set_cons_zero, List.set_cons_succ]
            refine wpAnyH_take (i := 8) (v := ?_) rfl (by kernel_rfl) (by kernel_rfl) (by kernel_rfl) (fun _ _ _ h => h) (Or.inl ⟨by rfl, ?_⟩) hS ?_
            case refine_2 =>  (intro w hSw; (try dsimp only at hSw); go_split_ands; go_simp; try (with_reducible rfl))
            try simp only [Act.put, List.setIfInBounds_toArray, List.set_cons_zero, List.set_cons_succ]
            refine wpAnyH_take (i := 9) (v := .int .u8 ((s[i + 1]'hlt).toNat : Nat)) rfl (by kernel_rfl) (by kernel_rfl) (by kernel_rfl) (fun _ _ _ h => h) (Or.inl ⟨by rfl, ?_⟩) hS ?_
            ·  (intro w hSw; (try dsimp only at hSw); go_split_ands; go_simp; try (with_reducible rfl))
            try simp only [Act.put, List.setIfInBounds_toArray, List.set_cons_zero, List.set_cons_succ]
            refine wpAnyH_ready (rs := [4]) (by kernel_rfl) (by simp) ?_
            refine AllReadyH.cons rfl (fun K hK => ?_) ?_
            case refine_2 => exact AllReadyH.nil
            go_simp
            refine (k0s _).mono ?_; rintro e w' ⟨rfl, rfl⟩
            try go_wp2_with fail
            refine hK.out _ _ ?_ (fun hS2 => ?_)
            · trivial
            clear hK K hS
            have hS := hS2
            clear hS2
            try simp only [Act.put, List.setIfInBounds_toArray, List.set_cons_zero, List.set_cons_succ]
            refine wpAnyH_take (i := 5) (v := ?_) rfl (by kernel_rfl) (by kernel_rfl) (by kernel_rfl) (fun _ _ _ h => h) (Or.inl ⟨by rfl, ?_⟩) hS ?_
            case refine_2 =>  (intro w hSw; (try dsimp only at hSw); go_split_ands; go_simp; try (with_reducible rfl))
            try simp only [Act.put, List.setIfInBounds_toArray, List.set_cons_zero, List.set_cons_succ]
            refine wpAnyH_ready (rs := [10]) (by kernel_rfl) (by simp) ?_
            refine AllReadyH.cons rfl (fun K hK => ?_) ?_
            case refine_2 => exact AllReadyH.nil
            go_simp
            refine (k1s _).mono ?_; rintro e w' ⟨rfl, rfl⟩
            try go_wp2_with fail
            refine hK.out _ _ ?_ (fun hS2 => ?_)
            · trivial
            clear hK K hS
            have hS := hS2
            clear hS2
            try simp only [Act.put, List.setIfInBounds_toArray, List.set_cons_zero, List.set_cons_succ]
            refine wpAnyH_take (i := 11) (v := ?_) rfl (by kernel_rfl) (by kernel_rfl) (by kernel_rfl) (fun _ _ _ h => h) (Or.inl ⟨by rfl, ?_⟩) hS ?_
            case refine_2 =>  (intro w hSw; (try dsimp only at hSw); go_split_ands; go_simp; try (with_reducible rfl))
            try simp only [Act.put, List.setIfInBounds_toArray, List.set_cons_zero, List.set_cons_succ]
            refine wpAnyH_ready (rs := [12]) (by kernel_rfl) (by simp) ?_
            refine AllReadyH.cons rfl (fun K hK => ?_) ?_
            case refine_2 => exact AllReadyH.nil
            go_simp
            refine hK.out _ _ ?_ (fun hS2 => ?_)
            · trivial
            clear hK K hS
            have hS := hS2
            clear hS2
            try simp only [Act.put, List.setIfInBounds_toArray, List.set_cons_zero, List.set_cons_succ]
            refine wpAnyH_ready (rs := [13]) (by kernel_rfl) (by simp) ?_
            refine AllReadyH.cons rfl (fun K hK => ?_) ?_
            case refine_2 => exact AllReadyH.nil
            refine step_app1 slice8 info8 rfl (by decide) (.int .u8 _) rfl HO2.out (by omega) HB2.out.size rfl _ _ rfl rfl rfl ?_; intro v5 w5 ho5 hb5
            refine hK.out _ _ ?_ (fun hS2 => ?_)
            · trivial
            clear hK K hS
            have hS := hS2
            clear hS2
            try simp only [Act.put, List.setIfInBounds_toArray, List.set_cons_zero, List.set_cons_succ]
            refine wpAnyH_take (i := 14) (v := ?_) rfl (by kernel_rfl) (by kernel_rfl) (by kernel_rfl) (fun _ _ _ h => h) (Or.inl ⟨by rfl, ?_⟩) hS ?_
            case refine_2 =>  (intro w hSw; (try dsimp only at hSw); go_split_ands; go_simp; try (with_reducible rfl))
            try simp only [Act.put, List.setIfInBounds_toArray, List.set_cons_zero, List.set_cons_succ]
            refine wpAnyH_done (by kernel_rfl) ?_ _
            go_wp2
            obtain ⟨z, HO5⟩ : ∃ z : Int, Hid (w5.ownsRow w.heap.size 5 1 v5 (xs ++ [z]).length ((xs ++ [z]).map (Value.int .u8))) := ⟨_, by show World.ownsRow _ _ _ _ _ _ _; rw [List.map_append, List.length_append]; exact ho5⟩
            have HB5 : Hid (Below w.heap.size w w5) := HB2.out.trans hb5
            clear ho5 hb5
            go_roundw
            case rel => exact ⟨i + 2, xs ++ [z], by go_num, by omega, by omega, by rw [List.length_append, List.length_singleton]; omega, HO5, HB5, HA3⟩
            case measure => simp [intOf]; omega
      · have hd2 : decide ((i : Int) + 1 < (s.size : Int)) = false := decide_eq_false (by omega)
        have HT : Hid (r = 0) := by
          show _ = _
          have h2 := HEV.out
          rw [HE.out, HA.out, List.drop_of_length_le (by rw [size_data]; omega)]; rfl
        obtain ⟨u, hcv⟩ := conv_any wr w.heap.size _ xs.length xs rfl HO.out
        clear HE HA
        go_wp2_with fail
        go_ret2
        exact ⟨⟨u, by rw [HT.out]; rfl⟩, HB.out⟩
set_option maxRecDepth 100000 in
theorem rhcheck_c (s : ByteArray) (hs : s.size < 1000000000) (w : World) : Calls Tryz.prog 70 #[.string s] w fun e w' => e = .returned (.int .i64 (idE s)) ∧ Below w.heap.size w w' := by
  have hc := rhread_c s hs w
  have hid : idE s = if hexE s = 0 ∧ s.size = 64 then 0 else 5 := rfl
  generalize idE s = r at *
  generalize hexE s = e at *
  have HR := Lib.hid hid
  clear hid
  by_cases he : e = 0
  · subst he
    by_cases hz : s.size = 64
    · have HE : Hid (r = 0) := by show _ = _; rw [HR.out, if_pos ⟨rfl, hz⟩]
      have hb : ((s.size : Int) != 64) = false := by rw [bne_eq_false_iff_eq]; omega
      clear HR hz
      go_enter Tryz.func70, Tryz.ntmps70
      go_wp2_with (go_at_call 94; refine hc.mono ?_; rintro e w' ⟨⟨t, rfl⟩, hb⟩)
      go_ret
      exact ⟨ret_int HE.out.symm, by assumption⟩
    · have HE : Hid (r = 5) := by show _ = _; rw [HR.out, if_neg (fun h => hz h.2)]
      have hb : ((s.size : Int) != 64) = true := by rw [bne_iff_ne]; omega
      clear HR hz
      go_enter Tryz.func70, Tryz.ntmps70
      go_wp2_with (go_at_call 94; refine hc.mono ?_; rintro e w' ⟨⟨t, rfl⟩, hb⟩)
      go_ret
      exact ⟨ret_int HE.out.symm, by assumption⟩
  · have HE : Hid (r = 5) := by show _ = _; rw [HR.out, if_neg (fun h => he h.1)]
    have hb : (e != 0) = true := by simpa using he
    clear HR
    go_enter Tryz.func70, Tryz.ntmps70
    go_wp2_with (go_at_call 94; refine hc.mono ?_; rintro e w' ⟨⟨t, rfl⟩, hb⟩)
    go_ret
    exact ⟨ret_int HE.out.symm, by assumption⟩
end Go.Proofs.YtmhkalalcmkpbaaGreat
