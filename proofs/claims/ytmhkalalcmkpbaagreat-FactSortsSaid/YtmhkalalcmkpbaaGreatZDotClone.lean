/-
  WireRead2 WireTake WireRef DotClone
-/
import Derived.Test.YtmhkalalcmkpbaaGreatZDotSame
import Derived.Test.YtmhkalalcmkpbaaGreatZWireRead
import Derived.Laws.ResultCell
import Derived.Lib.SliceRun
namespace Go.Proofs.YtmhkalalcmkpbaaGreat
open Go.RowKit
set_option linter.unusedVariables false
set_option linter.unusedSimpArgs false

theorem or_join (i v c : Nat) (hi : i ≤ 49) (hv : v < 2 ^ i) : bits .or .i64 (v : Int) ((c : Int) % 128 * ((2 ^ i : Nat) : Int)) = ((v + c % 128 * 2 ^ i : Nat) : Int) := by
  have h2 : 2 ^ i ≤ 2 ^ 49 := Nat.pow_le_pow_right (by decide) hi
  have h3 : c % 128 * 2 ^ i ≤ 127 * 2 ^ 49 := Nat.mul_le_mul (by omega) h2
  have e : (c : Int) % 128 * ((2 ^ i : Nat) : Int) = ((c % 128 * 2 ^ i : Nat) : Int) := by rw [Int.natCast_mul]; rfl
  rw [e, i64_or_nat _ _ (by omega) (by omega), Nat.or_comm, nat_join i _ _ (Nat.mul_mod_left _ _) hv, Nat.add_comm]
theorem val_next (s : ByteArray) (k : Nat) (h : k < s.size) : valB (s.data.toList.take (k + 1)) = valB (s.data.toList.take k) + s[k].toNat % 128 * 2 ^ (7 * k) := by
  have hl : k < s.data.toList.length := by simpa using h
  rw [take_one _ _ hl, valB_snoc, at_get s k h, List.length_take, Nat.min_eq_left (by omega), show (128 : Nat) = 2 ^ 7 from rfl, ← Nat.pow_mul]
theorem val_bound (s : ByteArray) (k : Nat) (h : k < s.size) : valB (s.data.toList.take k) < 2 ^ (7 * k) := by
  have hl : k < s.data.toList.length := by simpa using h
  have := valB_lt (s.data.toList.take k)
  rw [List.length_take, Nat.min_eq_left (by omega), show (128 : Nat) = 2 ^ 7 from rfl, ← Nat.pow_mul] at this
  exact this

theorem ret_iii {a b c a' b' c' : Int} (h : a = a') (h' : b = b') (h'' : c = c') : Ending.returned (.tuple #[.int .i64 a, .int .i64 b, .int .i64 c]) = .returned (.tuple #[.int .i64 a', .int .i64 b', .int .i64 c']) := by rw [h, h', h'']

set_option maxHeartbeats 2000000 in
set_option maxRecDepth 100000 in
theorem number_c (s : ByteArray) (hs : s.size < 9223372036854775807) (w : World) : Calls Tryz.prog 63 #[.string s] w fun e w' => e = .returned (.tuple #[.int .i64 ((numR s.data.toList).2.1 : Nat), .int .i64 ((numR s.data.toList).2.2 : Nat), .int .i64 (numR s.data.toList).1]) ∧ w = w' := by
  have hl := last_c s hs
  have hsz : s.data.toList.length = s.size := by simp
  have hle := endB_le s.data.toList
  rw [hsz] at hle
  generalize hr : numR s.data.toList = r
  have HR := Lib.hid hr
  clear hr
  have HSZ := Lib.hid hsz
  clear hsz hs
  by_cases h1 : endB s.data.toList < s.size
  · rw [if_pos h1, decide_eq_true h1] at hl
    have hg := at_get s _ h1
    by_cases h2 : 7 < endB s.data.toList
    · have HE : Hid (r = (2, 0, 0)) := by show _ = _; rw [← HR.out]; unfold numR; rw [if_neg (by rw [HSZ.out]; omega), if_pos h2]
      clear HR hg
      generalize endB s.data.toList = e at *
      go_enter Tryz.func63, Tryz.ntmps63
      go_wp2_with (go_at_call 87; refine (hl _).mono ?_; rintro e w' ⟨rfl, rfl⟩)
      go_ret3
      exact ⟨by rw [HE.out]; rfl, rfl⟩
    · by_cases h3 : 0 < endB s.data.toList ∧ (s.data.toList.getD (endB s.data.toList) 0).toNat = 0
      · have HE : Hid (r = (5, 0, 0)) := by show _ = _; rw [← HR.out]; unfold numR; rw [if_neg (by rw [HSZ.out]; omega), if_neg h2, if_pos h3]
        have h4 := h3.2
        rw [← hg] at h4
        have h5 := h3.1
        clear HR hg h3
        generalize endB s.data.toList = e at *
        go_enter Tryz.func63, Tryz.ntmps63
        have hd1 : ¬ ((e : Nat) : Int) ≥ 8 := by omega
        have hd2 : decide ((e : Int) > 0) = true := decide_eq_true (by omega)
        have h4' : (((s[e].toNat : Nat) : Int) == 0) = true := by rw [h4]; rfl
        go_wp2_with (go_at_call 87; refine (hl _).mono ?_; rintro e w' ⟨rfl, rfl⟩)
        go_ret3
        exact ⟨by rw [HE.out]; rfl, rfl⟩
      · have HE : Hid (r = if 9007199254740992 < valB (s.data.toList.take (endB s.data.toList + 1)) then (2, 0, 0) else (0, valB (s.data.toList.take (endB s.data.toList + 1)), endB s.data.toList + 1)) := by
          show _ = _; rw [← HR.out]; unfold numR; rw [if_neg (by rw [HSZ.out]; omega), if_neg h2, if_neg h3]
        have HZ : Hid (¬ (0 < endB s.data.toList ∧ s[endB s.data.toList].toNat = 0)) := by rw [hg]; exact h3
        clear HR hg h3
        generalize endB s.data.toList = e at *
        have hd1 : ¬ ((e : Nat) : Int) ≥ 8 := by omega
        have hmain : ∀ w, Calls Tryz.prog 63 #[.string s] w fun e w' => e = .returned (.tuple #[.int .i64 (r.2.1 : Nat), .int .i64 (r.2.2 : Nat), .int .i64 r.1]) ∧ w = w' := by
          intro w
          by_cases h0 : 0 < e
          · have hd2 : decide ((e : Int) > 0) = true := decide_eq_true (by omega)
            have h4' : (((s[e].toNat : Nat) : Int) == 0) = false := by rw [beq_eq_false_iff_ne]; have := HZ.out; omega
            go_enter Tryz.func63, Tryz.ntmps63
            go_wp2_with (go_at_call 87; refine (hl _).mono ?_; rintro e w' ⟨rfl, rfl⟩)
            go_loopw [7, 8, 31] (fun vn _ vi wr => ∃ (k : Nat), vi = .int .i64 k ∧ k ≤ e + 1 ∧ vn = .int .i64 (valB (s.data.toList.take k) : Nat) ∧ wr = w) (fun _ _ vi _ => e + 1 - (intOf vi).toNat)
            case atStart => exact ⟨0, rfl, by omega, rfl, rfl⟩
            case round =>
              obtain ⟨k, rfl, hk, rfl, rfl⟩ := hrel
              by_cases hlt : k < e + 1
              · have hks : k < s.size := by omega
                have hlow := and_low s[k]
                have hnx := val_next s k hks
                have hj := fun (h : 7 * k ≤ 49) => or_join (7 * k) (valB (s.data.toList.take k)) s[k].toNat h (val_bound s k hks)
                rw [← hnx] at hj
                clear hnx
                generalize valB (s.data.toList.take k) = v at *
                have hk8 : k = 0 ∨ k = 1 ∨ k = 2 ∨ k = 3 ∨ k = 4 ∨ k = 5 ∨ k = 6 ∨ k = 7 := by omega
                rcases hk8 with rfl | rfl | rfl | rfl | rfl | rfl | rfl | rfl
                · have HJ := Lib.hid (hj (by decide))
                  clear hj
                  go_wp2_with fail
                  go_roundw
                  case rel => exact ⟨1, rfl, by omega, congrArg _ (Eq.trans (by simp) HJ.out), trivial⟩
                  case measure => (simp [intOf]; try omega)
                · have HJ := Lib.hid (hj (by decide))
                  clear hj
                  go_wp2_with fail
                  go_roundw
                  case rel => exact ⟨2, rfl, by omega, congrArg _ HJ.out, trivial⟩
                  case measure => (simp [intOf]; try omega)
                · have HJ := Lib.hid (hj (by decide))
                  clear hj
                  go_wp2_with fail
                  go_roundw
                  case rel => exact ⟨3, rfl, by omega, congrArg _ HJ.out, trivial⟩
                  case measure => (simp [intOf]; try omega)
                · have HJ := Lib.hid (hj (by decide))
                  clear hj
                  go_wp2_with fail
                  go_roundw
                  case rel => exact ⟨4, rfl, by omega, congrArg _ HJ.out, trivial⟩
                  case measure => (simp [intOf]; try omega)
                · have HJ := Lib.hid (hj (by decide))
                  clear hj
                  go_wp2_with fail
                  go_roundw
                  case rel => exact ⟨5, rfl, by omega, congrArg _ HJ.out, trivial⟩
                  case measure => (simp [intOf]; try omega)
                · have HJ := Lib.hid (hj (by decide))
                  clear hj
                  go_wp2_with fail
                  go_roundw
                  case rel => exact ⟨6, rfl, by omega, congrArg _ HJ.out, trivial⟩
                  case measure => (simp [intOf]; try omega)
                · have HJ := Lib.hid (hj (by decide))
                  clear hj
                  go_wp2_with fail
                  go_roundw
                  case rel => exact ⟨7, rfl, by omega, congrArg _ HJ.out, trivial⟩
                  case measure => (simp [intOf]; try omega)
                · have HJ := Lib.hid (hj (by decide))
                  clear hj
                  go_wp2_with fail
                  go_roundw
                  case rel => exact ⟨8, rfl, by omega, congrArg _ HJ.out, trivial⟩
                  case measure => (simp [intOf]; try omega)
              · have hk' : k = e + 1 := by omega
                subst hk'
                clear hlt
                generalize valB (s.data.toList.take (e + 1)) = v at *
                by_cases hbig : 9007199254740992 < v
                · have HE2 : Hid (r = (2, 0, 0)) := by show _ = _; rw [HE.out, if_pos hbig]
                  have hd9 : (v : Int) > 9007199254740992 := by omega
                  clear hbig
                  go_wp2_with fail
                  go_ret3
                  exact ⟨by rw [HE2.out]; rfl, rfl⟩
                · have HE2 : Hid (r = (0, v, e + 1)) := by show _ = _; rw [HE.out, if_neg hbig]
                  have hd9 : ¬ (v : Int) > 9007199254740992 := by omega
                  clear hbig
                  go_wp2_with fail
                  go_ret3
                  exact ⟨by rw [HE2.out]; rfl, rfl⟩
          · have hd2 : decide ((e : Int) > 0) = false := decide_eq_false (by omega)
            go_enter Tryz.func63, Tryz.ntmps63
            go_wp2_with (go_at_call 87; refine (hl _).mono ?_; rintro e w' ⟨rfl, rfl⟩)
            go_loopw [7, 8, 31] (fun vn _ vi wr => ∃ (k : Nat), vi = .int .i64 k ∧ k ≤ e + 1 ∧ vn = .int .i64 (valB (s.data.toList.take k) : Nat) ∧ wr = w) (fun _ _ vi _ => e + 1 - (intOf vi).toNat)
            case atStart => exact ⟨0, rfl, by omega, rfl, rfl⟩
            case round =>
              obtain ⟨k, rfl, hk, rfl, rfl⟩ := hrel
              by_cases hlt : k < e + 1
              · have hks : k < s.size := by omega
                have hlow := and_low s[k]
                have hnx := val_next s k hks
                have hj := fun (h : 7 * k ≤ 49) => or_join (7 * k) (valB (s.data.toList.take k)) s[k].toNat h (val_bound s k hks)
                rw [← hnx] at hj
                clear hnx
                generalize valB (s.data.toList.take k) = v at *
                obtain rfl : k = 0 := by omega
                have HJ := Lib.hid (hj (by decide))
                clear hj
                go_wp2_with fail
                go_roundw
                case rel => exact ⟨1, rfl, by omega, congrArg _ (Eq.trans (by simp) HJ.out), trivial⟩
                case measure => (simp [intOf]; try omega)
              · have hk' : k = e + 1 := by omega
                subst hk'
                clear hlt
                generalize valB (s.data.toList.take (e + 1)) = v at *
                by_cases hbig : 9007199254740992 < v
                · have HE2 : Hid (r = (2, 0, 0)) := by show _ = _; rw [HE.out, if_pos hbig]
                  have hd9 : (v : Int) > 9007199254740992 := by omega
                  clear hbig
                  go_wp2_with fail
                  go_ret3
                  exact ⟨by rw [HE2.out]; rfl, rfl⟩
                · have HE2 : Hid (r = (0, v, e + 1)) := by show _ = _; rw [HE.out, if_neg hbig]
                  have hd9 : ¬ (v : Int) > 9007199254740992 := by omega
                  clear hbig
                  go_wp2_with fail
                  go_ret3
                  exact ⟨by rw [HE2.out]; rfl, rfl⟩
        exact hmain w
  · rw [if_neg h1, decide_eq_false h1] at hl
    have HE : Hid (r = (4, 0, 0)) := by show _ = _; rw [← HR.out]; unfold numR; rw [if_pos (by rw [HSZ.out]; omega)]
    clear HR
    go_enter Tryz.func63, Tryz.ntmps63
    go_wp2_with (go_at_call 87; refine (hl _).mono ?_; rintro e w' ⟨rfl, rfl⟩)
    go_ret3
    exact ⟨by rw [HE.out]; rfl, rfl⟩
end Go.Proofs.YtmhkalalcmkpbaaGreat

namespace Go.Proofs.YtmhkalalcmkpbaaGreat
open Go.RowKit
set_option linter.unusedVariables false
set_option linter.unusedSimpArgs false

/-- A reader of the call's own: what is left, and the error. -/
structure Rdr (w : World) (p : Nat) (s : ByteArray) (e : Int) : Prop where
  lt : p < w.heap.size
  text : w.cell? ⟨p, 0, none⟩ = some (.string s)
  err : w.cell? ⟨p, 1, none⟩ = some (.int .i64 e)
  free0 : w.frozen? ⟨p, 0, none⟩ = false
  free1 : w.frozen? ⟨p, 1, none⟩ = false


set_option maxRecDepth 100000 in
theorem new_c (s : ByteArray) (w : World) : Calls Tryz.prog 40 #[.string s] w fun e w' => e = .returned (.pointer (some ⟨w.heap.size, 0, none⟩)) ∧ w' = w.alloc (.cells #[.string s, .int .i64 0] 106) := by
  go_enter Tryz.func40, Tryz.ntmps40
  go_wp2
  go_ret
  exact ⟨rfl, rfl⟩

set_option maxRecDepth 100000 in
theorem err_c (p : Nat) (s : ByteArray) (e : Int) (w : World) (h : Rdr w p s e) : Calls Tryz.prog 42 #[.pointer (some ⟨p, 0, none⟩)] w fun r w' => r = .returned (.int .i64 e) ∧ w' = w := by
  have h1 := h.err
  go_enter Tryz.func42, Tryz.ntmps42
  go_wp2
  go_ret
  exact ⟨rfl, rfl⟩

set_option maxHeartbeats 1000000 in
set_option maxRecDepth 100000 in
theorem taken_c (p : Nat) (s : ByteArray) (e : Int) (w : World) (h : Rdr w p s e) (hs : s.size < 9223372036854775807) :
    Calls Tryz.prog 62 #[.pointer (some ⟨p, 0, none⟩), .func (.func 63) #[] #[]] w fun r w' =>
      (e ≠ 0 → r = .returned (.int .i64 0) ∧ w' = w) ∧
      (e = 0 → (numR s.data.toList).1 ≠ 0 → r = .returned (.int .i64 0) ∧ w' = w.setCell ⟨p, 1, none⟩ (.int .i64 (numR s.data.toList).1)) ∧
      (e = 0 → (numR s.data.toList).1 = 0 → r = .returned (.int .i64 ((numR s.data.toList).2.1 : Nat)) ∧ w' = w.setCell ⟨p, 0, none⟩ (.string (s.extract (numR s.data.toList).2.2 s.size))) := by
  have h0 := h.text
  have h1 := h.err
  have f0 := h.free0
  have f1 := h.free1
  have hc := number_c s hs
  have HK : Hid ((numR s.data.toList).1 = 0 → (numR s.data.toList).2.2 ≤ s.size) := by
    intro h
    unfold numR at h ⊢
    have hsz : s.data.toList.length = s.size := by simp
    have hle := endB_le s.data.toList
    split at h
    · cases h
    · split at h
      · cases h
      · split at h
        · cases h
        · split at h
          · cases h
          · rename_i a b c d
            rw [if_neg a, if_neg b, if_neg c, if_neg d]
            show endB s.data.toList + 1 ≤ s.size
            omega
  generalize numR s.data.toList = r at *
  obtain ⟨re, rn, rk⟩ := r
  simp only at *
  have HS : Hid (s.size < 9223372036854775807) := hs
  by_cases he : e = 0
  · subst he
    by_cases hr : re = 0
    · subst hr
      have hk : rk ≤ s.size := HK.out rfl
      go_enter Tryz.func62, Tryz.ntmps62
      go_wp2_with (go_at_call 63; refine (hc _).mono ?_; rintro e w' ⟨rfl, rfl⟩)
      go_ret
      exact ⟨fun h => absurd rfl h, fun _ h => absurd rfl h, fun _ _ => ⟨rfl, rfl⟩⟩
    · have hrb : (re != 0) = true := by simpa using hr
      go_enter Tryz.func62, Tryz.ntmps62
      go_wp2_with (go_at_call 63; refine (hc _).mono ?_; rintro e w' ⟨rfl, rfl⟩)
      go_ret
      exact ⟨fun h => absurd rfl h, fun _ _ => ⟨rfl, rfl⟩, fun _ h => absurd h hr⟩
  · have heb : (e != 0) = true := by simpa using he
    go_enter Tryz.func62, Tryz.ntmps62
    go_wp2
    go_ret
    exact ⟨fun _ => ⟨rfl, rfl⟩, fun h => absurd h he, fun h => absurd h he⟩

/-- What a reader does for a number: the number, what is left and the error. -/
def rdN (st : ByteArray × Int) : Nat × (ByteArray × Int) :=
  if st.2 ≠ 0 then (0, st) else if (numR st.1.data.toList).1 ≠ 0 then (0, (st.1, (numR st.1.data.toList).1)) else ((numR st.1.data.toList).2.1, (st.1.extract (numR st.1.data.toList).2.2 st.1.size, 0))
theorem extract_size (s : ByteArray) (k : Nat) : (s.extract k s.size).size ≤ s.size := by rw [ByteArray.size_extract]; omega
theorem rdN_size (st : ByteArray × Int) : (rdN st).2.1.size ≤ st.1.size := by
  unfold rdN
  split
  · exact Nat.le_refl _
  · split
    · exact Nat.le_refl _
    · exact extract_size _ _
theorem Rdr.start (s : ByteArray) (w : World) : Rdr (w.alloc (.cells #[.string s, .int .i64 0] 106)) w.heap.size s 0 :=
  ⟨by simp, by simp, by simp, by simp, by simp⟩
theorem Rdr.set0 {w : World} {p : Nat} {s : ByteArray} {e : Int} (h : Rdr w p s e) (s' : ByteArray) : Rdr (w.setCell ⟨p, 0, none⟩ (.string s')) p s' e :=
  ⟨by simpa [World.setCell] using h.lt, World.cell?_setCell_same _ _ _ h.text, (World.cell?_setCell_other _ _ _ _ (by intro e; cases e)).trans h.err, by rw [World.frozen?_setCell]; exact h.free0, by rw [World.frozen?_setCell]; exact h.free1⟩
theorem Rdr.set1 {w : World} {p : Nat} {s : ByteArray} {e : Int} (h : Rdr w p s e) (e' : Int) : Rdr (w.setCell ⟨p, 1, none⟩ (.int .i64 e')) p s e' :=
  ⟨by simpa [World.setCell] using h.lt, (World.cell?_setCell_other _ _ _ _ (by intro e; cases e)).trans h.text, World.cell?_setCell_same _ _ _ h.err, by rw [World.frozen?_setCell]; exact h.free0, by rw [World.frozen?_setCell]; exact h.free1⟩
theorem grown_cell (w : World) (p o : Nat) (u : Value) : w.grownBy (w.setCell ⟨p, o, none⟩ u) (some p) :=
  ⟨rfl, rfl, rfl, by simp [World.setCell], fun i hi hne => Below.heap_setCell w ⟨p, o, none⟩ u i (by rintro rfl; exact hne rfl)⟩

set_option maxRecDepth 100000 in
theorem rnum_read (p : Nat) (s : ByteArray) (e : Int) (w : World) (h : Rdr w p s e) (hs : s.size < 9223372036854775807) :
    Calls Tryz.prog 41 #[.pointer (some ⟨p, 0, none⟩)] w fun r w' =>
      r = .returned (.int .i64 ((rdN (s, e)).1 : Nat)) ∧ Rdr w' p (rdN (s, e)).2.1 (rdN (s, e)).2.2 ∧ w.grownBy w' (some p) := by
  have ht : Calls Tryz.prog 62 #[.pointer (some ⟨p, 0, none⟩), .func (.func 63) #[] #[]] w fun r w' =>
      r = .returned (.int .i64 ((rdN (s, e)).1 : Nat)) ∧ Rdr w' p (rdN (s, e)).2.1 (rdN (s, e)).2.2 ∧ w.grownBy w' (some p) := by
    refine (taken_c p s e w h hs).mono fun r w' ⟨h1, h2, h3⟩ => ?_
    unfold rdN
    by_cases he : e = 0
    · subst he
      by_cases hr : (numR s.data.toList).1 = 0
      · obtain ⟨rfl, rfl⟩ := h3 rfl hr
        rw [if_neg (by simp), if_neg (by simpa using hr)]
        exact ⟨rfl, h.set0 _, grown_cell _ _ _ _⟩
      · obtain ⟨rfl, rfl⟩ := h2 rfl hr
        rw [if_neg (by simp), if_pos (by simpa using hr)]
        exact ⟨rfl, h.set1 _, grown_cell _ _ _ _⟩
    · obtain ⟨rfl, rfl⟩ := h1 he
      rw [if_pos (by simpa using he)]
      exact ⟨rfl, h, World.grownBy.refl _ _⟩
  clear h
  generalize rdN (s, e) = r at *
  obtain ⟨n, s', e'⟩ := r
  go_enter Tryz.func41, Tryz.ntmps41
  go_wp2_with (go_at_call 62; refine ht.mono ?_; rintro e w' ⟨rfl, hrd, hgr⟩)
  go_ret
  exact ⟨rfl, hrd, hgr⟩

/-- What Done answers. -/
def doneE (st : ByteArray × Int) : Int := if st.2 ≠ 0 then st.2 else if st.1.size = 0 then 0 else 5
theorem str_empty_iff (s : ByteArray) : s.toList.isEmpty = decide (s.size = 0) := by
  rw [ByteArray.toList_eq, Bool.eq_iff_iff, List.isEmpty_iff, decide_eq_true_eq]
  rw [← List.length_eq_zero_iff]
  simp

set_option maxRecDepth 100000 in
theorem done_c (p : Nat) (s : ByteArray) (e : Int) (w : World) (h : Rdr w p s e) : Calls Tryz.prog 44 #[.pointer (some ⟨p, 0, none⟩)] w fun r w' => r = .returned (.int .i64 (doneE (s, e))) ∧ w' = w := by
  have h0 := h.text
  have hc := err_c p s e w h
  clear h
  by_cases he : e = 0
  · subst he
    have hse := str_empty_iff s
    by_cases hz : s.size = 0
    · rw [decide_eq_true hz] at hse
      have hd : doneE (s, 0) = 0 := by unfold doneE; rw [if_neg (by simp), if_pos hz]
      rw [hd]; clear hd hz
      go_enter Tryz.func44, Tryz.ntmps44
      go_wp2_with (go_at_call 42; refine hc.mono ?_; rintro e w' ⟨rfl, rfl⟩)
      go_ret
      exact ⟨rfl, rfl⟩
    · rw [decide_eq_false hz] at hse
      have hd : doneE (s, 0) = 5 := by unfold doneE; rw [if_neg (by simp), if_neg hz]
      rw [hd]; clear hd hz
      go_enter Tryz.func44, Tryz.ntmps44
      go_wp2_with (go_at_call 42; refine hc.mono ?_; rintro e w' ⟨rfl, rfl⟩)
      go_ret
      exact ⟨rfl, rfl⟩
  · have heb : (e != 0) = true := by simpa using he
    have hd : doneE (s, e) = e := by unfold doneE; rw [if_pos (by simpa using he)]
    rw [hd]; clear hd
    go_enter Tryz.func44, Tryz.ntmps44
    go_wp2_with (go_at_call 42; refine hc.mono ?_; rintro e w' ⟨rfl, rfl⟩)
    go_ret
    exact ⟨rfl, rfl⟩
end Go.Proofs.YtmhkalalcmkpbaaGreat

namespace Go.Proofs.YtmhkalalcmkpbaaGreat
open Go.RowKit
set_option linter.unusedVariables false
set_option linter.unusedSimpArgs false

theorem val_down (s : ByteArray) (e i : Nat) (hi : i ≤ e) (h : e < s.size) : valB ((s.data.toList.take (e + 1)).drop i) = valB ((s.data.toList.take (e + 1)).drop (i + 1)) * 128 + s[i].toNat % 128 := by
  have hl : s.data.toList.length = s.size := by simp
  rw [drop_one _ i (by rw [List.length_take]; omega), at_get s i (by omega)]
  show _ % 128 + 128 * _ = _
  rw [show (s.data.toList.take (e + 1)).getD i 0 = s.data.toList.getD i 0 by simp [List.getD, List.getElem?_take, show i < e + 1 by omega]]
  omega
theorem val_small (s : ByteArray) (e i : Nat) (he : e ≤ 7) : valB ((s.data.toList.take (e + 1)).drop (i + 1)) < 562949953421312 := by
  have h := valB_lt ((s.data.toList.take (e + 1)).drop (i + 1))
  have hl : ((s.data.toList.take (e + 1)).drop (i + 1)).length ≤ 7 := by rw [List.length_drop, List.length_take]; omega
  have h2 : (128 : Nat) ^ ((s.data.toList.take (e + 1)).drop (i + 1)).length ≤ 128 ^ 7 := Nat.pow_le_pow_right (by decide) hl
  have : (128 : Nat) ^ 7 = 562949953421312 := by decide
  omega
theorem ret_rn {a a' : ByteArray} {b b' n n' : Int} (h : a = a') (h' : b = b') (h'' : n = n') : Ending.returned (.tuple #[.agg #[.string a, .int .i64 b], .int .i64 n]) = .returned (.tuple #[.agg #[.string a', .int .i64 b'], .int .i64 n']) := by rw [h, h', h'']

theorem res_R (a : Act) (w : World) (g : Nat) (s : ByteArray) (e n : Int) (h1 : a.tmps.getD 2 undef = .pointer (some ⟨g, 0, none⟩)) (h2 : a.tmps.getD 3 undef = .int .i64 n)
    (c0 : w.cell? ⟨g, 0, none⟩ = some (.string s)) (c1 : w.cell? ⟨g, 1, none⟩ = some (.int .i64 e)) :
    (results Tryz.f49 a.tmps).run Tryz.prog w = .ok (.tuple #[.agg #[.string s, .int .i64 e], .int .i64 n]) w := by
  rw [results_cell_tmp (p := 2) (u := 3) (ty := 90) rfl, h1, h2]
  go_simp

set_option maxHeartbeats 2000000 in
set_option maxRecDepth 100000 in
theorem rrnum_c (s : ByteArray) (e : Int) (hs : s.size < 9223372036854775807) (w : World) :
    Calls Tryz.prog 49 #[.agg #[.string s, .int .i64 e]] w fun r w' => r = .returned (.tuple #[.agg #[.string (rdN (s, e)).2.1, .int .i64 (rdN (s, e)).2.2], .int .i64 ((rdN (s, e)).1 : Nat)]) ∧ Below w.heap.size w w' := by
  have hsz : s.data.toList.length = s.size := by simp
  have HSZ := Lib.hid hsz
  clear hsz
  by_cases he : e = 0
  · subst he
    have hrd : rdN (s, 0) = if (numR s.data.toList).1 ≠ 0 then (0, (s, (numR s.data.toList).1)) else ((numR s.data.toList).2.1, (s.extract (numR s.data.toList).2.2 s.size, 0)) := by unfold rdN; rw [if_neg (by simp)]
    generalize rdN (s, 0) = r at *
    have HR := Lib.hid hrd
    clear hrd
    go_enter Tryz.func49, Tryz.ntmps49
    go_wp2_with fail
    go_loopw [4] (fun vi wr => ∃ (k : Nat), vi = .int .i64 k ∧ k ≤ s.size ∧ wr = (w.alloc (.cells #[.string s, .int .i64 0] 90)).alloc (.cells #[.string ⟨#[]⟩, .int .i64 0] 90) ∧ Hid (∀ j, j < k → 128 ≤ (s.data.toList.getD j 0).toNat)) (fun vi _ => s.size - (intOf vi).toNat)
    case atStart => exact ⟨0, rfl, by omega, rfl, fun j hj => absurd hj (by omega)⟩
    case round =>
      obtain ⟨k, rfl, hk, rfl, HM⟩ := hrel
      have herr : ∀ (er : Int), er ≠ 0 → (numR s.data.toList) = (er, 0, 0) → r = (0, (s, er)) := by
        intro er h1 h2
        rw [HR.out, h2, if_pos h1]
      have HERR := Lib.hid herr
      clear herr
      by_cases hlt : k < s.size
      · have hg := at_get s k hlt
        have HM2 : Hid (128 ≤ (s.data.toList.getD k 0).toNat → ∀ j, j < k + 1 → 128 ≤ (s.data.toList.getD j 0).toNat) := by
          intro h j hj
          rcases Nat.lt_or_ge j k with g | g
          · exact HM.out j g
          · obtain rfl : j = k := by omega
            exact h
        have HE : Hid ((s.data.toList.getD k 0).toNat < 128 → endB s.data.toList = k) := fun h => endB_eq _ k (by rw [HSZ.out]; exact hk) HM.out (fun _ => h)
        rw [← hg] at HM2 HE
        have hdk : decide ((k : Int) < (s.size : Int)) = true := decide_eq_true (by omega)
        by_cases hc : s[k].toNat < 128
        · have hE := HE.out hc
          have hdc : decide (((s[k].toNat : Nat) : Int) ≥ 128) = false := decide_eq_false (by omega)
          have hks : ((k : Int) == (s.size : Int)) = false := by rw [beq_eq_false_iff_ne]; omega
          clear HM HM2 HE
          by_cases h7 : 7 < k
          · have HX : Hid (r = (0, (s, 2))) := HERR.out 2 (by decide) (by unfold numR; rw [hE, if_neg (by rw [HSZ.out]; omega), if_pos h7])
            have hd7 : (k : Int) > 7 := by omega
            clear hg hE HERR HR
            go_wp2_with fail
            refine bodyPost_ret (res_R _ _ (w.heap.size + 1) s 2 0 rfl rfl (by simp) (by simp)) rfl ?_
            exact ⟨by rw [HX.out]; rfl, ((Below.refl _ _).alloc (Nat.le_refl _) _).alloc (by simp) _⟩
          · have hd7 : ¬ (k : Int) > 7 := by omega
            by_cases hz : 0 < k ∧ s[k].toNat = 0
            · have HX : Hid (r = (0, (s, 5))) := HERR.out 5 (by decide) (by unfold numR; rw [hE, if_neg (by rw [HSZ.out]; omega), if_neg h7, if_pos (by rw [← hg]; exact hz)])
              have hz0 : (((s[k].toNat : Nat) : Int) == 0) = true := by rw [hz.2]; rfl
              have hz1 : decide ((k : Int) > 0) = true := decide_eq_true (by omega)
              clear hg hE HERR HR
              go_wp2_with fail
              refine bodyPost_ret (res_R _ _ (w.heap.size + 1) s 5 0 rfl rfl (by simp) (by simp)) rfl ?_
              exact ⟨by rw [HX.out]; rfl, ((Below.refl _ _).alloc (Nat.le_refl _) _).alloc (by simp) _⟩
            · have hnum : numR s.data.toList = if 9007199254740992 < valB (s.data.toList.take (k + 1)) then (2, 0, 0) else (0, valB (s.data.toList.take (k + 1)), k + 1) := by
                unfold numR; rw [hE, if_neg (by rw [HSZ.out]; omega), if_neg h7, if_neg (by rw [← hg]; exact hz)]
              have HNUM := Lib.hid hnum
              have HZ : Hid (s[k].toNat = 0 → ¬ 0 < k) := fun h1 h2 => hz ⟨h2, h1⟩
              clear hnum hz hE
              have hend : ∀ v : Nat, v = valB (s.data.toList.take (k + 1)) → (9007199254740992 < v → r = (0, (s, 2))) ∧ (¬ 9007199254740992 < v → r = (v, (s.extract (k + 1) s.size, 0))) := by
                intro v hv
                subst hv
                constructor
                · intro h; exact HERR.out 2 (by decide) (by rw [HNUM.out, if_pos h])
                · intro h; rw [HR.out, HNUM.out, if_neg h]; rfl
              have HEND := Lib.hid hend
              clear hend HERR HNUM HR hg
              by_cases hs0 : s[k].toNat = 0
              · have hz0 : (((s[k].toNat : Nat) : Int) == 0) = true := by rw [hs0]; rfl
                have hz1 : ¬ 0 < k := HZ.out hs0
                have hz2 : decide ((k : Int) > 0) = false := decide_eq_false (by omega)
                go_wp2_with fail
                go_loopw [5, 6] (fun vn vi wr => ∃ (t : Nat), vi = .int .i64 ((t : Int) - 1) ∧ t ≤ k + 1 ∧ vn = .int .i64 (valB ((s.data.toList.take (k + 1)).drop t) : Nat) ∧ wr = (w.alloc (.cells #[.string s, .int .i64 0] 90)).alloc (.cells #[.string ⟨#[]⟩, .int .i64 0] 90)) (fun _ vi _ => (intOf vi + 1).toNat)
                case atStart => exact ⟨k + 1, by go_num, by omega, by rw [List.drop_of_length_le (by rw [List.length_take]; omega)]; rfl, rfl⟩
                case round =>
                  obtain ⟨t, rfl, ht, rfl, rfl⟩ := hrel
                  cases t with
                  | succ t =>
                    have hts : t < s.size := by omega
                    have hvd := val_down s k t (by omega) hlt
                    have hvb := val_small s k t (by omega)
                    have HVD := Lib.hid hvd
                    clear hvd
                    have hb : ((valB ((s.data.toList.take (k + 1)).drop (t + 1)) : Nat) : Int) < 562949953421312 := by omega
                    have hti : (((t + 1 : Nat) : Int) - 1) = (t : Int) := by omega
                    rw [hti]
                    clear hti
                    generalize valB ((s.data.toList.take (k + 1)).drop (t + 1)) = v at *
                    have hc2 := s[t].toNat_lt
                    go_wp2_with fail
                    go_roundw
                    case rel => exact ⟨t, by go_num, by omega, by rw [HVD.out]; go_num, trivial⟩
                    case measure => simp [intOf]
                  | zero =>
                    have HEND2 := Lib.hid (HEND.out _ (List.drop_zero ▸ rfl : valB ((s.data.toList.take (k + 1)).drop 0) = _))
                    generalize valB ((s.data.toList.take (k + 1)).drop 0) = v at *
                    by_cases hbig : 9007199254740992 < v
                    · have HX : Hid (r = (0, (s, 2))) := HEND2.out.1 hbig
                      have hd9 : (v : Int) > 9007199254740992 := by omega
                      clear hbig HEND HEND2
                      go_wp2_with fail
                      refine bodyPost_ret (res_R _ _ (w.heap.size + 1) s 2 0 rfl rfl (by simp) (by simp)) rfl ?_
                      exact ⟨by rw [HX.out]; rfl, ((Below.refl _ _).alloc (Nat.le_refl _) _).alloc (by simp) _⟩
                    · have HX : Hid (r = (v, (s.extract (k + 1) s.size, 0))) := HEND2.out.2 hbig
                      have hd9 : ¬ (v : Int) > 9007199254740992 := by omega
                      clear hbig HEND HEND2
                      go_wp2_with fail
                      refine bodyPost_ret (res_R _ _ (w.heap.size + 1) (s.extract (k + 1) s.size) 0 v rfl rfl (by simp) (by simp)) rfl ?_
                      exact ⟨by rw [HX.out], ((Below.refl _ _).alloc (Nat.le_refl _) _).alloc (by simp) _⟩
              · have hz0 : (((s[k].toNat : Nat) : Int) == 0) = false := by rw [beq_eq_false_iff_ne]; omega
                go_wp2_with fail
                go_loopw [5, 6] (fun vn vi wr => ∃ (t : Nat), vi = .int .i64 ((t : Int) - 1) ∧ t ≤ k + 1 ∧ vn = .int .i64 (valB ((s.data.toList.take (k + 1)).drop t) : Nat) ∧ wr = (w.alloc (.cells #[.string s, .int .i64 0] 90)).alloc (.cells #[.string ⟨#[]⟩, .int .i64 0] 90)) (fun _ vi _ => (intOf vi + 1).toNat)
                case atStart => exact ⟨k + 1, by go_num, by omega, by rw [List.drop_of_length_le (by rw [List.length_take]; omega)]; rfl, rfl⟩
                case round =>
                  obtain ⟨t, rfl, ht, rfl, rfl⟩ := hrel
                  cases t with
                  | succ t =>
                    have hts : t < s.size := by omega
                    have hvd := val_down s k t (by omega) hlt
                    have hvb := val_small s k t (by omega)
                    have HVD := Lib.hid hvd
                    clear hvd
                    have hb : ((valB ((s.data.toList.take (k + 1)).drop (t + 1)) : Nat) : Int) < 562949953421312 := by omega
                    have hti : (((t + 1 : Nat) : Int) - 1) = (t : Int) := by omega
                    rw [hti]
                    clear hti
                    generalize valB ((s.data.toList.take (k + 1)).drop (t + 1)) = v at *
                    have hc2 := s[t].toNat_lt
                    go_wp2_with fail
                    go_roundw
                    case rel => exact ⟨t, by go_num, by omega, by rw [HVD.out]; go_num, trivial⟩
                    case measure => simp [intOf]
                  | zero =>
                    have HEND2 := Lib.hid (HEND.out _ (List.drop_zero ▸ rfl : valB ((s.data.toList.take (k + 1)).drop 0) = _))
                    generalize valB ((s.data.toList.take (k + 1)).drop 0) = v at *
                    by_cases hbig : 9007199254740992 < v
                    · have HX : Hid (r = (0, (s, 2))) := HEND2.out.1 hbig
                      have hd9 : (v : Int) > 9007199254740992 := by omega
                      clear hbig HEND HEND2
                      go_wp2_with fail
                      refine bodyPost_ret (res_R _ _ (w.heap.size + 1) s 2 0 rfl rfl (by simp) (by simp)) rfl ?_
                      exact ⟨by rw [HX.out]; rfl, ((Below.refl _ _).alloc (Nat.le_refl _) _).alloc (by simp) _⟩
                    · have HX : Hid (r = (v, (s.extract (k + 1) s.size, 0))) := HEND2.out.2 hbig
                      have hd9 : ¬ (v : Int) > 9007199254740992 := by omega
                      clear hbig HEND HEND2
                      go_wp2_with fail
                      refine bodyPost_ret (res_R _ _ (w.heap.size + 1) (s.extract (k + 1) s.size) 0 v rfl rfl (by simp) (by simp)) rfl ?_
                      exact ⟨by rw [HX.out], ((Below.refl _ _).alloc (Nat.le_refl _) _).alloc (by simp) _⟩
        · have HM3 := Lib.hid (HM2.out (by omega))
          have hdc : decide (((s[k].toNat : Nat) : Int) ≥ 128) = true := decide_eq_true (by omega)
          clear HM HM2 HE hg HERR
          go_wp2_with fail
          go_roundw
          case rel => exact ⟨k + 1, by go_num, by omega, trivial, HM3⟩
          case measure => simp [intOf]; omega
      · have hks : k = s.size := by omega
        have HX : Hid (r = (0, (s, 4))) := HERR.out 4 (by decide) (by
          have hE : endB s.data.toList = s.size := by rw [← hks]; exact endB_eq _ k (by rw [HSZ.out]; exact hk) HM.out (fun h => absurd h (by rw [HSZ.out]; omega))
          unfold numR; rw [hE, if_pos HSZ.out.symm])
        have hdk : decide ((k : Int) < (s.size : Int)) = false := decide_eq_false (by omega)
        have hks2 : ((k : Int) == (s.size : Int)) = true := by rw [hks]; simp
        clear HM HERR HR hks
        go_wp2_with fail
        refine bodyPost_ret (res_R _ _ (w.heap.size + 1) s 4 0 rfl rfl (by simp) (by simp)) rfl ?_
        exact ⟨by rw [HX.out]; rfl, ((Below.refl _ _).alloc (Nat.le_refl _) _).alloc (by simp) _⟩
  · have hrd : rdN (s, e) = (0, (s, e)) := by unfold rdN; rw [if_pos (by simpa using he)]
    rw [hrd]
    have heb : (e != 0) = true := by simpa using he
    go_enter Tryz.func49, Tryz.ntmps49
    go_wp2
    refine bodyPost_ret (res_R _ _ (w.heap.size + 1) s e 0 rfl rfl (by simp) (by simp)) rfl ?_
    exact ⟨rfl, ((Below.refl _ _).alloc (Nat.le_refl _) _).alloc (by simp) _⟩
end Go.Proofs.YtmhkalalcmkpbaaGreat

namespace Go.Proofs.YtmhkalalcmkpbaaGreat
open Go.RowKit
set_option linter.unusedVariables false
set_option linter.unusedSimpArgs false

set_option maxRecDepth 100000 in
theorem rdone_c (s : ByteArray) (e : Int) (w : World) : Calls Tryz.prog 51 #[.agg #[.string s, .int .i64 e]] w fun r w' => r = .returned (.int .i64 (doneE (s, e))) ∧ Below w.heap.size w w' := by
  by_cases he : e = 0
  · subst he
    have hse := str_empty_iff s
    by_cases hz : s.size = 0
    · rw [decide_eq_true hz] at hse
      have hd : doneE (s, 0) = 0 := by unfold doneE; rw [if_neg (by simp), if_pos hz]
      rw [hd]; clear hd hz
      go_enter Tryz.func51, Tryz.ntmps51
      go_wp2
      go_ret
      exact ⟨rfl, (Below.refl _ _).alloc (Nat.le_refl _) _⟩
    · rw [decide_eq_false hz] at hse
      have hd : doneE (s, 0) = 5 := by unfold doneE; rw [if_neg (by simp), if_neg hz]
      rw [hd]; clear hd hz
      go_enter Tryz.func51, Tryz.ntmps51
      go_wp2
      go_ret
      exact ⟨rfl, (Below.refl _ _).alloc (Nat.le_refl _) _⟩
  · have heb : (e == 0) = false := by simpa using he
    have hd : doneE (s, e) = e := by unfold doneE; rw [if_pos (by simpa using he)]
    rw [hd]; clear hd
    go_enter Tryz.func51, Tryz.ntmps51
    go_wp2
    go_ret
    exact ⟨rfl, (Below.refl _ _).alloc (Nat.le_refl _) _⟩

theorem infoDot : (Tryz.prog.info? 32).map (fun i => (i.zero, i.size, i.bytes)) = some (some (.agg #[.int .i64 0, .int .i64 0]), 2, 16) := by kernel_rfl
/-- A row of names of the call's own. -/
abbrev OwnD (w : World) (base : Nat) (v : Value) (l : List (Int × Int)) : Prop := w.ownsRow base 32 2 v l.length (l.flatMap encD)
theorem enc_one (l : List (Int × Int)) : ∀ u ∈ l.flatMap encD, u.oneCell' = true := by
  intro u hu
  obtain ⟨d, _, hd⟩ := List.mem_flatMap.1 hu
  simp [encD] at hd
  rcases hd with rfl | rfl <;> rfl

end Go.Proofs.YtmhkalalcmkpbaaGreat
