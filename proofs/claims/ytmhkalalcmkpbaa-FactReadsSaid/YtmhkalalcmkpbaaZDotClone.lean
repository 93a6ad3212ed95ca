/-
  WireRef DotClone
-/
import Derived.Test.YtmhkalalcmkpbaaZDotSame
import Derived.Test.YtmhkalalcmkpbaaZWireTake
import Derived.Laws.ResultCell
import Derived.Lib.SliceRun
namespace Go.Proofs.Ytmhkalalcmkpbaa
open Go.RowKit
set_option linter.unusedVariables false
set_option linter.unusedSimpArgs false

theorem val_down (s : ByteArray) (e i : Nat) (hi : i ≤ e) (h : e < s.size) : valB ((s.data.toList.take (e + 1)).drop i) = valB ((s.data.toList.take (e + 1)).drop (i + 1)) * 128 + s[i].toNat % 128 := by
  have hl : s.data.toList.length = s.size := by simp
  rw [drop_one _ i (by rw [List.length_take]; omega), at_get s i (by omega)]
  show _ % 128 + 128 * _ = _
  rw [show (s.data.toList.take (e + 1)).getD i 0 = s.data.toList.getD i 0 by simp [List.getD, List.getElem?_take, show i < e + 1 by omega]]
  omega
theorem val_small (s : ByteArray) (e i : Nat) (he : e ≤ 7) : valB ((s.data.toList.take (e + 1)).drop (i + 1)) < 562949953421312 := by
  have h := valB_lt ((s.data.toList.take (e + 1)).drop (i + 1))
  have hl : ((s.data.toList.take (e + 1)).drop (i + 1)).length ≤ 7 := by rw [List.length_drop, List.length_take]; omega
  have h2 : (128 : Nat) ^ ((s.data.toList.take (e + 1)).drop (i + 1)).length ≤ 128 ^ 7 := Nat.pow_le_pow_right (by decide) hl
  have : (128 : Nat) ^ 7 = 562949953421312 := by decide
  omega
theorem ret_rn {a a' : ByteArray} {b b' n n' : Int} (h : a = a') (h' : b = b') (h'' : n = n') : Ending.returned (.tuple #[.agg #[.string a, .int .i64 b], .int .i64 n]) = .returned (.tuple #[.agg #[.string a', .int .i64 b'], .int .i64 n']) := by rw [h, h', h'']

theorem res_R (a : Act) (w : World) (g : Nat) (s : ByteArray) (e n : Int) (h1 : a.tmps.getD 2 undef = .pointer (some ⟨g, 0, none⟩)) (h2 : a.tmps.getD 3 undef = .int .i64 n)
    (c0 : w.cell? ⟨g, 0, none⟩ = some (.string s)) (c1 : w.cell? ⟨g, 1, none⟩ = some (.int .i64 e)) :
    (results Try.f85 a.tmps).run Try.prog w = .ok (.tuple #[.agg #[.string s, .int .i64 e], .int .i64 n]) w := by
  rw [results_cell_tmp (p := 2) (u := 3) (ty := 127) rfl, h1, h2]
  go_simp

set_option maxHeartbeats 2000000 in
set_option maxRecDepth 100000 in
theorem rrnum_c (s : ByteArray) (e : Int) (hs : s.size < 9223372036854775807) (w : World) :
    Calls Try.prog 85 #[.agg #[.string s, .int .i64 e]] w fun r w' => r = .returned (.tuple #[.agg #[.string (rdN (s, e)).2.1, .int .i64 (rdN (s, e)).2.2], .int .i64 ((rdN (s, e)).1 : Nat)]) ∧ Below w.heap.size w w' := by
  have hsz : s.data.toList.length = s.size := by simp
  have HSZ := Lib.hid hsz
  clear hsz
  by_cases he : e = 0
  · subst he
    have hrd : rdN (s, 0) = if (numR s.data.toList).1 ≠ 0 then (0, (s, (numR s.data.toList).1)) else ((numR s.data.toList).2.1, (s.extract (numR s.data.toList).2.2 s.size, 0)) := by unfold rdN; rw [if_neg (by simp)]
    generalize rdN (s, 0) = r at *
    have HR := Lib.hid hrd
    clear hrd
    go_enter Try.func85, Try.ntmps85
    go_wp2_with fail
    go_loopw [4] (fun vi wr => ∃ (k : Nat), vi = .int .i64 k ∧ k ≤ s.size ∧ wr = (w.alloc (.cells #[.string s, .int .i64 0] 127)).alloc (.cells #[.string ⟨#[]⟩, .int .i64 0] 127) ∧ Hid (∀ j, j < k → 128 ≤ (s.data.toList.getD j 0).toNat)) (fun vi _ => s.size - (intOf vi).toNat)
    case atStart => exact ⟨0, rfl, by omega, rfl, fun j hj => absurd hj (by omega)⟩
    case round =>
      obtain ⟨k, rfl, hk, rfl, HM⟩ := hrel
      have herr : ∀ (er : Int), er ≠ 0 → (numR s.data.toList) = (er, 0, 0) → r = (0, (s, er)) := by
        intro er h1 h2
        rw [HR.out, h2, if_pos h1]
      have HERR := Lib.hid herr
      clear herr
      by_cases hlt : k < s.size
      · have hg := at_get s k hlt
        have HM2 : Hid (128 ≤ (s.data.toList.getD k 0).toNat → ∀ j, j < k + 1 → 128 ≤ (s.data.toList.getD j 0).toNat) := by
          intro h j hj
          rcases Nat.lt_or_ge j k with g | g
          · exact HM.out j g
          · obtain rfl : j = k := by omega
            exact h
        have HE : Hid ((s.data.toList.getD k 0).toNat < 128 → endB s.data.toList = k) := fun h => endB_eq _ k (by rw [HSZ.out]; exact hk) HM.out (fun _ => h)
        rw [← hg] at HM2 HE
        have hdk : decide ((k : Int) < (s.size : Int)) = true := decide_eq_true (by omega)
        by_cases hc : s[k].toNat < 128
        · have hE := HE.out hc
          have hdc : decide (((s[k].toNat : Nat) : Int) ≥ 128) = false := decide_eq_false (by omega)
          have hks : ((k : Int) == (s.size : Int)) = false := by rw [beq_eq_false_iff_ne]; omega
          clear HM HM2 HE
          by_cases h7 : 7 < k
          · have HX : Hid (r = (0, (s, 2))) := HERR.out 2 (by decide) (by unfold numR; rw [hE, if_neg (by rw [HSZ.out]; omega), if_pos h7])
            have hd7 : (k : Int) > 7 := by omega
            clear hg hE HERR HR
            go_wp2_with fail
            refine bodyPost_ret (res_R _ _ (w.heap.size + 1) s 2 0 rfl rfl (by simp) (by simp)) rfl ?_
            exact ⟨by rw [HX.out]; rfl, ((Below.refl _ _).alloc (Nat.le_refl _) _).alloc (by simp) _⟩
          · have hd7 : ¬ (k : Int) > 7 := by omega
            by_cases hz : 0 < k ∧ s[k].toNat = 0
            · have HX : Hid (r = (0, (s, 5))) := HERR.out 5 (by decide) (by unfold numR; rw [hE, if_neg (by rw [HSZ.out]; omega), if_neg h7, if_pos (by rw [← hg]; exact hz)])
              have hz0 : (((s[k].toNat : Nat) : Int) == 0) = true := by rw [hz.2]; rfl
              have hz1 : decide ((k : Int) > 0) = true := decide_eq_true (by omega)
              clear hg hE HERR HR
              go_wp2_with fail
              refine bodyPost_ret (res_R _ _ (w.heap.size + 1) s 5 0 rfl rfl (by simp) (by simp)) rfl ?_
              exact ⟨by rw [HX.out]; rfl, ((Below.refl _ _).alloc (Nat.le_refl _) _).alloc (by simp) _⟩
            · have hnum : numR s.data.toList = if 9007199254740992 < valB (s.data.toList.take (k + 1)) then (2, 0, 0) else (0, valB (s.data.toList.take (k + 1)), k + 1) := by
                unfold numR; rw [hE, if_neg (by rw [HSZ.out]; omega), if_neg h7, if_neg (by rw [← hg]; exact hz)]
              have HNUM := Lib.hid hnum
              have HZ : Hid (s[k].toNat = 0 → ¬ 0 < k) := fun h1 h2 => hz ⟨h2, h1⟩
              clear hnum hz hE
              have hend : ∀ v : Nat, v = valB (s.data.toList.take (k + 1)) → (9007199254740992 < v → r = (0, (s, 2))) ∧ (¬ 9007199254740992 < v → r = (v, (s.extract (k + 1) s.size, 0))) := by
                intro v hv
                subst hv
                constructor
                · intro h; exact HERR.out 2 (by decide) (by rw [HNUM.out, if_pos h])
                · intro h; rw [HR.out, HNUM.out, if_neg h]; rfl
              have HEND := Lib.hid hend
              clear hend HERR HNUM HR hg
              by_cases hs0 : s[k].toNat = 0
              · have hz0 : (((s[k].toNat : Nat) : Int) == 0) = true := by rw [hs0]; rfl
                have hz1 : ¬ 0 < k := HZ.out hs0
                have hz2 : decide ((k : Int) > 0) = false := decide_eq_false (by omega)
                go_wp2_with fail
                go_loopw [5, 6] (fun vn vi wr => ∃ (t : Nat), vi = .int .i64 ((t : Int) - 1) ∧ t ≤ k + 1 ∧ vn = .int .i64 (valB ((s.data.toList.take (k + 1)).drop t) : Nat) ∧ wr = (w.alloc (.cells #[.string s, .int .i64 0] 127)).alloc (.cells #[.string ⟨#[]⟩, .int .i64 0] 127)) (fun _ vi _ => (intOf vi + 1).toNat)
                case atStart => exact ⟨k + 1, by go_num, by omega, by rw [List.drop_of_length_le (by rw [List.length_take]; omega)]; rfl, rfl⟩
                case round =>
                  obtain ⟨t, rfl, ht, rfl, rfl⟩ := hrel
                  cases t with
                  | succ t =>
                    have hts : t < s.size := by omega
                    have hvd := val_down s k t (by omega) hlt
                    have hvb := val_small s k t (by omega)
                    have HVD := Lib.hid hvd
                    clear hvd
                    have hb : ((valB ((s.data.toList.take (k + 1)).drop (t + 1)) : Nat) : Int) < 562949953421312 := by omega
                    have hti : (((t + 1 : Nat) : Int) - 1) = (t : Int) := by omega
                    rw [hti]
                    clear hti
                    generalize valB ((s.data.toList.take (k + 1)).drop (t + 1)) = v at *
                    have hc2 := s[t].toNat_lt
                    go_wp2_with fail
                    go_roundw
                    case rel => exact ⟨t, by go_num, by omega, by rw [HVD.out]; go_num, trivial⟩
                    case measure => simp [intOf]
                  | zero =>
                    have HEND2 := Lib.hid (HEND.out _ (List.drop_zero ▸ rfl : valB ((s.data.toList.take (k + 1)).drop 0) = _))
                    generalize valB ((s.data.toList.take (k + 1)).drop 0) = v at *
                    by_cases hbig : 9007199254740992 < v
                    · have HX : Hid (r = (0, (s, 2))) := HEND2.out.1 hbig
                      have hd9 : (v : Int) > 9007199254740992 := by omega
                      clear hbig HEND HEND2
                      go_wp2_with fail
                      refine bodyPost_ret (res_R _ _ (w.heap.size + 1) s 2 0 rfl rfl (by simp) (by simp)) rfl ?_
                      exact ⟨by rw [HX.out]; rfl, ((Below.refl _ _).alloc (Nat.le_refl _) _).alloc (by simp) _⟩
                    · have HX : Hid (r = (v, (s.extract (k + 1) s.size, 0))) := HEND2.out.2 hbig
                      have hd9 : ¬ (v : Int) > 9007199254740992 := by omega
                      clear hbig HEND HEND2
                      go_wp2_with fail
                      refine bodyPost_ret (res_R _ _ (w.heap.size + 1) (s.extract (k + 1) s.size) 0 v rfl rfl (by simp) (by simp)) rfl ?_
                      exact ⟨by rw [HX.out], ((Below.refl _ _).alloc (Nat.le_refl _) _).alloc (by simp) _⟩
              · have hz0 : (((s[k].toNat : Nat) : Int) == 0) = false := by rw [beq_eq_false_iff_ne]; omega
                go_wp2_with fail
                go_loopw [5, 6] (fun vn vi wr => ∃ (t : Nat), vi = .int .i64 ((t : Int) - 1) ∧ t ≤ k + 1 ∧ vn = .int .i64 (valB ((s.data.toList.take (k + 1)).drop t) : Nat) ∧ wr = (w.alloc (.cells #[.string s, .int .i64 0] 127)).alloc (.cells #[.string ⟨#[]⟩, .int .i64 0] 127)) (fun _ vi _ => (intOf vi + 1).toNat)
                case atStart => exact ⟨k + 1, by go_num, by omega, by rw [List.drop_of_length_le (by rw [List.length_take]; omega)]; rfl, rfl⟩
                case round =>
                  obtain ⟨t, rfl, ht, rfl, rfl⟩ := hrel
                  cases t with
                  | succ t =>
                    have hts : t < s.size := by omega
                    have hvd := val_down s k t (by omega) hlt
                    have hvb := val_small s k t (by omega)
                    have HVD := Lib.hid hvd
                    clear hvd
                    have hb : ((valB ((s.data.toList.take (k + 1)).drop (t + 1)) : Nat) : Int) < 562949953421312 := by omega
                    have hti : (((t + 1 : Nat) : Int) - 1) = (t : Int) := by omega
                    rw [hti]
                    clear hti
                    generalize valB ((s.data.toList.take (k + 1)).drop (t + 1)) = v at *
                    have hc2 := s[t].toNat_lt
                    go_wp2_with fail
                    go_roundw
                    case rel => exact ⟨t, by go_num, by omega, by rw [HVD.out]; go_num, trivial⟩
                    case measure => simp [intOf]
                  | zero =>
                    have HEND2 := Lib.hid (HEND.out _ (List.drop_zero ▸ rfl : valB ((s.data.toList.take (k + 1)).drop 0) = _))
                    generalize valB ((s.data.toList.take (k + 1)).drop 0) = v at *
                    by_cases hbig : 9007199254740992 < v
                    · have HX : Hid (r = (0, (s, 2))) := HEND2.out.1 hbig
                      have hd9 : (v : Int) > 9007199254740992 := by omega
                      clear hbig HEND HEND2
                      go_wp2_with fail
                      refine bodyPost_ret (res_R _ _ (w.heap.size + 1) s 2 0 rfl rfl (by simp) (by simp)) rfl ?_
                      exact ⟨by rw [HX.out]; rfl, ((Below.refl _ _).alloc (Nat.le_refl _) _).alloc (by simp) _⟩
                    · have HX : Hid (r = (v, (s.extract (k + 1) s.size, 0))) := HEND2.out.2 hbig
                      have hd9 : ¬ (v : Int) > 9007199254740992 := by omega
                      clear hbig HEND HEND2
                      go_wp2_with fail
                      refine bodyPost_ret (res_R _ _ (w.heap.size + 1) (s.extract (k + 1) s.size) 0 v rfl rfl (by simp) (by simp)) rfl ?_
                      exact ⟨by rw [HX.out], ((Below.refl _ _).alloc (Nat.le_refl _) _).alloc (by simp) _⟩
        · have HM3 := Lib.hid (HM2.out (by omega))
          have hdc : decide (((s[k].toNat : Nat) : Int) ≥ 128) = true := decide_eq_true (by omega)
          clear HM HM2 HE hg HERR
          go_wp2_with fail
          go_roundw
          case rel => exact ⟨k + 1, by go_num, by omega, trivial, HM3⟩
          case measure => simp [intOf]; omega
      · have hks : k = s.size := by omega
        have HX : Hid (r = (0, (s, 4))) := HERR.out 4 (by decide) (by
          have hE : endB s.data.toList = s.size := by rw [← hks]; exact endB_eq _ k (by rw [HSZ.out]; exact hk) HM.out (fun h => absurd h (by rw [HSZ.out]; omega))
          unfold numR; rw [hE, if_pos HSZ.out.symm])
        have hdk : decide ((k : Int) < (s.size : Int)) = false := decide_eq_false (by omega)
        have hks2 : ((k : Int) == (s.size : Int)) = true := by rw [hks]; simp
        clear HM HERR HR hks
        go_wp2_with fail
        refine bodyPost_ret (res_R _ _ (w.heap.size + 1) s 4 0 rfl rfl (by simp) (by simp)) rfl ?_
        exact ⟨by rw [HX.out]; rfl, ((Below.refl _ _).alloc (Nat.le_refl _) _).alloc (by simp) _⟩
  · have hrd : rdN (s, e) = (0, (s, e)) := by unfold rdN; rw [if_pos (by simpa using he)]
    rw [hrd]
    have heb : (e != 0) = true := by simpa using he
    go_enter Try.func85, Try.ntmps85
    go_wp2
    refine bodyPost_ret (res_R _ _ (w.heap.size + 1) s e 0 rfl rfl (by simp) (by simp)) rfl ?_
    exact ⟨rfl, ((Below.refl _ _).alloc (Nat.le_refl _) _).alloc (by simp) _⟩
end Go.Proofs.Ytmhkalalcmkpbaa

namespace Go.Proofs.Ytmhkalalcmkpbaa
open Go.RowKit
set_option linter.unusedVariables false
set_option linter.unusedSimpArgs false

set_option maxRecDepth 100000 in
theorem rdone_c (s : ByteArray) (e : Int) (w : World) : Calls Try.prog 87 #[.agg #[.string s, .int .i64 e]] w fun r w' => r = .returned (.int .i64 (doneE (s, e))) ∧ Below w.heap.size w w' := by
  by_cases he : e = 0
  · subst he
    have hse := str_empty_iff s
    by_cases hz : s.size = 0
    · rw [decide_eq_true hz] at hse
      have hd : doneE (s, 0) = 0 := by unfold doneE; rw [if_neg (by simp), if_pos hz]
      rw [hd]; clear hd hz
      go_enter Try.func87, Try.ntmps87
      go_wp2
      go_ret
      exact ⟨rfl, (Below.refl _ _).alloc (Nat.le_refl _) _⟩
    · rw [decide_eq_false hz] at hse
      have hd : doneE (s, 0) = 5 := by unfold doneE; rw [if_neg (by simp), if_neg hz]
      rw [hd]; clear hd hz
      go_enter Try.func87, Try.ntmps87
      go_wp2
      go_ret
      exact ⟨rfl, (Below.refl _ _).alloc (Nat.le_refl _) _⟩
  · have heb : (e == 0) = false := by simpa using he
    have hd : doneE (s, e) = e := by unfold doneE; rw [if_pos (by simpa using he)]
    rw [hd]; clear hd
    go_enter Try.func87, Try.ntmps87
    go_wp2
    go_ret
    exact ⟨rfl, (Below.refl _ _).alloc (Nat.le_refl _) _⟩

theorem infoDot : (Try.prog.info? 23).map (fun i => (i.zero, i.size, i.bytes)) = some (some (.agg #[.int .i64 0, .int .i64 0]), 2, 16) := by kernel_rfl
theorem sliceDot : Try.prog.underlying 27 = some (.slice 23) := by kernel_rfl

theorem nil_dot (w : World) (a : Option Addr) (n c : Nat) : (binOp .eql 27 (.slice a n c) (.slice none 0 0)).run Try.prog w = .ok (.bool a.isNone) w := Lib.run_eql_slice_nil w _ _ a n c 0 0 sliceDot
attribute [local go_sem] nil_dot
/-- A row of names of the call's own. -/
abbrev OwnD (w : World) (base : Nat) (v : Value) (l : List (Int × Int)) : Prop := w.ownsRow base 23 2 v l.length (l.flatMap encD)
theorem enc_one (l : List (Int × Int)) : ∀ u ∈ l.flatMap encD, u.oneCell' = true := by
  intro u hu
  obtain ⟨d, _, hd⟩ := List.mem_flatMap.1 hu
  simp [encD] at hd
  rcases hd with rfl | rfl <;> rfl

set_option maxHeartbeats 1000000 in
set_option maxRecDepth 100000 in
theorem clone_c (A : Option Addr) (n c B : Nat) (l : List (Int × Int)) (w : World) (h1 : RdD w B A n l) (hB : B ≤ w.heap.size) (hn : n < 1000000) :
    Calls Try.prog 150 #[.slice A n c] w fun e w' => ∃ v, e = .returned v ∧ OwnD w' w.heap.size v l ∧ Below w.heap.size w w' := by
  have HX := Lib.hid h1.len
  have HR := Lib.hid (Reads.more h1 hB)
  clear h1 hB
  cases A with
  | none =>
    have h0 : n = 0 := by
      rcases Nat.eq_zero_or_pos n with h | h
      · exact h
      · obtain ⟨ad, e, _⟩ := HR.out.2 h
        cases e
    subst h0
    have HL : Hid (l = []) := List.eq_nil_of_length_eq_zero HX.out
    go_enter Try.func150, Try.ntmps150
    go_wp2
    go_ret
    refine ⟨_, rfl, ?_, Below.refl _ _⟩
    rw [show l = [] from HL.out]
    exact World.ownsRow_nil _ _ _ _
  | some ad =>
    obtain ⟨i, hi, hz, hsz, hby⟩ := info_parts infoDot
    have HI := Lib.hid (And.intro hi (And.intro hz (And.intro hsz hby)))
    clear hi hz hsz hby
    go_enter Try.func150, Try.ntmps150
    go_wp2_with (at_builtin; refine wpList_append_any (P := Try.prog) _ rfl _ _ 27 rfl w.heap.size 23 i _ 2 16 sliceDot HI.out.1 HI.out.2.1 HI.out.2.2.1 HI.out.2.2.2 rfl (by decide) _ 0 [] rfl (World.ownsRow_lit (base := w.heap.size) (e := 23) (size := 2) w #[] 0 (Nat.le_refl _) (by simp [maxLen]) rfl) _ _ _ _ _ rfl (HR.out.alloc (Nat.le_refl _) _) (enc_one l) (by simp only [maxLen]; omega) (by omega) (by simp) ?_; intro v' w' h2 h3 h4)
    go_ret
    refine ⟨_, rfl, ?_, ?_⟩
    · show World.ownsRow _ _ _ _ _ _ _
      rw [HX.out]; simpa using h2
    · exact below_app ((Below.refl _ _).alloc (Nat.le_refl _) _) (World.ownsRow_lit (base := w.heap.size) (e := 23) (size := 2) w #[] 0 (Nat.le_refl _) (by simp [maxLen]) rfl) (Nat.le_refl _) (by simp) h3
end Go.Proofs.Ytmhkalalcmkpbaa
