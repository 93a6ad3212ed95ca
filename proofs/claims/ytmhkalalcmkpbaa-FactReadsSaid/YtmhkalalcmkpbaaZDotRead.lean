/-
  DotMay2 DotPut DotRead
-/
import Derived.Test.YtmhkalalcmkpbaaZDotApp
import Derived.Test.YtmhkalalcmkpbaaZDotMay
import Derived.Test.YtmhkalalcmkpbaaZDotPlain
import Derived.Test.YtmhkalalcmkpbaaZDotRSort
import Derived.Test.YtmhkalalcmkpbaaZTools
namespace Go.Proofs.Ytmhkalalcmkpbaa
open Go.RowKit
set_option linter.unusedVariables false
set_option linter.unusedSimpArgs false
attribute [local go_sem] eq_dot guard_dot

set_option maxHeartbeats 2000000 in
set_option maxRecDepth 100000 in
theorem may_c (A : Option Addr) (n c B : Nat) (l : List (Int × Int)) (w : World) (h1 : RdD w B A n l) (hB : B ≤ w.heap.size) (hn : n < 1000000) :
    Calls Try.prog 125 #[.slice A n c] w fun e w' => e = .returned (.int .i64 (mayE l)) ∧ Below w.heap.size w w' := by
  have HX := Lib.hid h1.len
  have HR := Lib.hid (Reads.more h1 hB)
  clear h1 hB
  generalize hr : mayE l = r
  have HD : Hid ((chkTo l n ≠ 0 → r = chkTo l n) ∧ (chkTo l n = 0 → Rises l n → r = 0) ∧ (chkTo l n = 0 → ¬ Rises l n → r = 5)) := by
    have hx := HX.out
    subst hx
    refine ⟨fun h => ?_, fun h g => ?_, fun h g => ?_⟩
    · rw [← hr]; unfold mayE; rw [if_pos h]
    · rw [← hr]; unfold mayE; rw [if_neg (by simpa using h), if_pos g]
    · rw [← hr]; unfold mayE; rw [if_neg (by simpa using h), if_neg g]
  clear hr
  go_enter Try.func125, Try.ntmps125
  go_wp2_with fail
  go_loopw [4, 5, 9] (fun _ _ vi wr => ∃ (i : Nat), vi = .int .i64 i ∧ i ≤ n ∧ Hid (Below w.heap.size w wr) ∧ Hid (chkTo l i = 0)) (fun _ _ vi _ => n - (intOf vi).toNat)
  case atStart => exact ⟨0, rfl, by omega, Below.refl _ _, rfl⟩
  case round =>
    obtain ⟨i, rfl, hin, HB, HE⟩ := hrel
    by_cases hlt : i < n
    · obtain ⟨b1, o1, rfl, _, hc1, hc2⟩ := RdD.get (Reads.below HR.out HB.out) hlt
      have hck := check_c
      have hcc := check_c (l.getD i default)
      have HN : Hid (chkTo l (i + 1) = chk (l.getD i default)) := by
        show (if chkTo l i ≠ 0 then _ else _) = _
        rw [if_neg (by simpa using HE.out)]
      generalize l.getD i default = d at hc1 hc2 hcc HN
      obtain ⟨d1, d2⟩ := d
      simp only at hc1 hc2 hcc
      generalize chk (d1, d2) = e at hcc HN
      by_cases he : e = 0
      · subst he
        go_wp2_with (go_at_call 70; refine (hcc _).mono ?_; rintro e w1 ⟨rfl, hb1⟩)
        have HB1 : Hid (Below w.heap.size w w1) := (HB.out.alloc HB.out.size _).trans (hb1.mono (Nat.le_trans HB.out.size (by simp)))
        go_roundw
        case rel => exact ⟨i + 1, by go_num, by omega, HB1, HN⟩
        case measure => simp [intOf]; omega
      · have heb : (e != 0) = true := by simpa using he
        have hne : chkTo l (i + 1) ≠ 0 := by rw [HN.out]; exact he
        have HR2 : Hid (e = r) := by
          show _ = _
          have := chkTo_stop l (i + 1) hne n (by omega)
          have h2 := HD.out.1 (by rw [this]; exact hne)
          rw [h2, this]; exact HN.out.symm
        clear hne he
        go_wp2_with (go_at_call 70; refine (hcc _).mono ?_; rintro e w1 ⟨rfl, hb1⟩)
        go_ret
        exact ⟨ret_int HR2.out, (HB.out.alloc HB.out.size _).trans (hb1.mono (Nat.le_trans HB.out.size (by simp)))⟩
    · have hin' : i = n := by omega
      subst hin'
      have HC : Hid (chkTo l i = 0) := HE
      clear HE
      obtain ⟨w3, hw3⟩ : ∃ w3, w3 = wr := ⟨_, rfl⟩
      subst hw3
      go_wp2_with fail
      go_loopw [6] (fun vk wr2 => ∃ (k : Nat), vk = .int .i64 k ∧ 1 ≤ k ∧ (k ≤ i ∨ k = 1) ∧ Hid (Below w.heap.size w wr2) ∧ Hid (Rises l k)) (fun vk _ => i - (intOf vk).toNat)
      case atStart => exact ⟨1, rfl, by omega, by omega, HB, fun j hj h => by omega⟩
      case round =>
        clear HB
        obtain ⟨k, rfl, hk1, hk, HB, HRS⟩ := hrel
        by_cases hlt2 : k < i
        · obtain ⟨b1, o1, rfl, _, hc1, hc2⟩ := RdD.get (Reads.below HR.out HB.out) hlt2
          obtain ⟨b2, o2, e2, _, hd1, hd2⟩ := RdD.get (Reads.below HR.out HB.out) (k := k - 1) (by omega)
          injection e2 with e2; injection e2 with e3 e4; subst e3 e4
          have hls := less_c (l.getD (k - 1) default) (l.getD k default)
          have hew : IntKind.i64.wrap ((k : Int) - 1) = (k : Int) - 1 := by rw [IntKind.wrap_i64]; omega
          have hen : ((k : Int) - 1).toNat = k - 1 := by omega
          have hix : 0 ≤ IntKind.i64.wrap ((k : Int) - 1) ∧ IntKind.i64.wrap ((k : Int) - 1) < (i : Int) := by rw [hew]; omega
          have hiy : 0 ≤ ((k : Int) - 1) ∧ ((k : Int) - 1) < (i : Int) := by omega
          have hiz : 0 ≤ (k : Int) ∧ (k : Int) < (i : Int) := by omega
          have f1 : wr.drew.cell? ⟨b1, o1 + (IntKind.i64.wrap ((k : Int) - 1)).toNat * 2, none⟩ = some (.int .i64 (l.getD (k - 1) default).1) := by rw [hew, hen]; exact hd1
          have f2 : wr.drew.cell? ⟨b1, o1 + (IntKind.i64.wrap ((k : Int) - 1)).toNat * 2 + 1, none⟩ = some (.int .i64 (l.getD (k - 1) default).2) := by rw [hew, hen]; exact hd2
          have f3 : wr.drew.cell? ⟨b1, o1 + k * 2, none⟩ = some (.int .i64 (l.getD k default).1) := hc1
          have f4 : wr.drew.cell? ⟨b1, o1 + k * 2 + 1, none⟩ = some (.int .i64 (l.getD k default).2) := hc2
          have HRS2 : Hid (ltD (l.getD (k - 1) default) (l.getD k default) = true → Rises l (k + 1)) := fun h j hj g => by
            rcases Nat.lt_or_ge j k with g2 | g2
            · exact HRS.out j g2 g
            · obtain rfl : j = k := by omega
              exact h
          have HRN : Hid (ltD (l.getD (k - 1) default) (l.getD k default) = false → ¬ Rises l i) := fun h g => by
            have := g k hlt2 hk1
            rw [h] at this; cases this
          have HBD : Hid (Below w.heap.size w wr.drew) := below_drewN HB.out 1
          have HBW := HB
          clear hew hen hc1 hc2 hd1 hd2 HB HRS
          generalize hbe : ltD (l.getD (k - 1) default) (l.getD k default) = b at *
          have HBE : Hid (b = ltD (l.getD (k - 1) default) (l.getD k default)) := hbe.symm
          clear hbe
          generalize l.getD (k - 1) default = x at *
          generalize l.getD k default = y at *
          obtain ⟨x1, x2⟩ := x
          obtain ⟨y1, y2⟩ := y
          simp only at f1 f2 f3 f4 hls
          have HLT : Hid (b = ltD (x1, x2) (y1, y2)) := HBE
          by_cases hxy : y1 = x1 ∧ y2 = x2
          · obtain ⟨rfl, rfl⟩ := hxy
            have hbf : b = false := by rw [HLT.out]; unfold ltD; rw [decide_eq_false_iff_not]; omega
            have HR3 : Hid (5 = r) := (HD.out.2.2 HC.out (HRN.out hbf)).symm
            have g1 : wr.cell? ⟨b1, o1 + (IntKind.i64.wrap ((k : Int) - 1)).toNat * 2, none⟩ = some (.int .i64 y1) := f1
            have g2 : wr.cell? ⟨b1, o1 + (IntKind.i64.wrap ((k : Int) - 1)).toNat * 2 + 1, none⟩ = some (.int .i64 y2) := f2
            have g3 : wr.cell? ⟨b1, o1 + k * 2, none⟩ = some (.int .i64 y1) := f3
            have g4 : wr.cell? ⟨b1, o1 + k * 2 + 1, none⟩ = some (.int .i64 y2) := f4
            have HBX : Hid (∀ q, Below w.heap.size w (wr.drewN q)) := fun q => below_drewN HBW.out q
            clear g1 g2 g3 g4 hls hbf HRS2 HRN HBW HBE HLT
            go_wp2_with fail
            refine wp_region_still_tail 22 (by kernel_rfl) (by kernel_rfl) ?_
            simp only [List.take_succ_cons, List.take_zero, List.drop_succ_cons, List.drop_zero]
            change wpStill _ _ (World.drew wr) _ _ _
            generalize World.drew wr = w2 at *
            refine wpStill_hold (fun Q5 HQ5 => ?_)
            iterate 11 still_step
            iterate 11 ((with_reducible refine wpStill_step (fun K hK => ?_)); go_simp; (with_reducible refine hK _ ?_); clear hK K)
            refine wpStill_nil (HQ5.out _ ?_)
            clear HQ5
            go_wp2
            go_ret
            exact ⟨ret_int HR3.out, HBX.out 1⟩
          · have hne : ¬ y1 = x1 ∨ (y1 = x1 ∧ ¬ y2 = x2) := by
              by_cases h : y1 = x1
              · exact .inr ⟨h, fun g => hxy ⟨h, g⟩⟩
              · exact .inl h
            clear hxy HLT
            rcases hne with hne | ⟨hne1, hne2⟩
            · go_wp2_with fail
              refine wp_region_still_tail 20 (by kernel_rfl) (by kernel_rfl) ?_
              simp only [List.take_succ_cons, List.take_zero, List.drop_succ_cons, List.drop_zero]
              change wpStill _ _ (World.drew wr) _ _ _
              generalize hw2 : World.drew wr = w2 at *
              repeat still_step
              refine wpStill_nil ?_
              change wpList _ _ _ _ _ (World.drew wr)
              rw [hw2]
              clear hw2 f1 f2 f3 f4
              cases b with
              | true =>
                go_wp2_with (go_at_call 79; refine (hls _).mono ?_; rintro e w5 ⟨rfl, hb5⟩)
                have HB5 : Hid (Below w.heap.size w w5) := HBD.out.trans (hb5.mono HBD.out.size)
                go_roundw
                case rel => exact ⟨k + 1, by go_num, by omega, by omega, HB5, HRS2.out (by first | rfl | trivial)⟩
                case measure => simp [intOf]; omega
              | false =>
                have HR3 : Hid (5 = r) := (HD.out.2.2 HC.out (HRN.out (by first | rfl | trivial))).symm
                go_wp2_with (go_at_call 79; refine (hls _).mono ?_; rintro e w5 ⟨rfl, hb5⟩)
                go_ret
                exact ⟨ret_int HR3.out, HBD.out.trans (hb5.mono HBD.out.size)⟩
            · subst hne1
              go_wp2_with fail
              refine wp_region_still_tail 20 (by kernel_rfl) (by kernel_rfl) ?_
              simp only [List.take_succ_cons, List.take_zero, List.drop_succ_cons, List.drop_zero]
              change wpStill _ _ (World.drew wr) _ _ _
              generalize hw2 : World.drew wr = w2 at *
              repeat still_step
              refine wpStill_nil ?_
              change wpList _ _ _ _ _ (World.drew wr)
              rw [hw2]
              clear hw2 f1 f2 f3 f4
              cases b with
              | true =>
                go_wp2_with (go_at_call 79; refine (hls _).mono ?_; rintro e w5 ⟨rfl, hb5⟩)
                have HB5 : Hid (Below w.heap.size w w5) := HBD.out.trans (hb5.mono HBD.out.size)
                go_roundw
                case rel => exact ⟨k + 1, by go_num, by omega, by omega, HB5, HRS2.out (by first | rfl | trivial)⟩
                case measure => simp [intOf]; omega
              | false =>
                have HR3 : Hid (5 = r) := (HD.out.2.2 HC.out (HRN.out (by first | rfl | trivial))).symm
                go_wp2_with (go_at_call 79; refine (hls _).mono ?_; rintro e w5 ⟨rfl, hb5⟩)
                go_ret
                exact ⟨ret_int HR3.out, HBD.out.trans (hb5.mono HBD.out.size)⟩
        · have HR3 : Hid (0 = r) := by
            show _ = _
            refine (HD.out.2.1 HC.out ?_).symm
            intro j hj g
            exact HRS.out j (by omega) g
          clear HRS
          go_wp2_with fail
          go_ret
          exact ⟨ret_int HR3.out, HB.out⟩
end Go.Proofs.Ytmhkalalcmkpbaa

namespace Go.Proofs.Ytmhkalalcmkpbaa
open Go.RowKit
set_option linter.unusedVariables false
set_option linter.unusedSimpArgs false
theorem ret_si2 {a b : ByteArray} {c d : Int} (h : a = b) (h' : c = d) : Ending.returned (.tuple #[.string a, .int .i64 c]) = .returned (.tuple #[.string b, .int .i64 d]) := by rw [h, h']

set_option maxHeartbeats 2000000 in
set_option maxRecDepth 100000 in
theorem put_c (A : Option Addr) (n c B : Nat) (l : List (Int × Int)) (w : World) (h1 : RdD w B A n l) (hB : B ≤ w.heap.size) (hn : n < 1000000) :
    Calls Try.prog 64 #[.slice A n c] w fun e w' => e = .returned (.tuple #[.string (putS l), .int .i64 (putE l)]) ∧ Below w.heap.size w w' := by
  have HX := Lib.hid h1.len
  have HR := Lib.hid (Reads.more h1 hB)
  have hmay := may_c A n c B l w h1 hB hn
  clear h1 hB
  by_cases hbig : 4096 < n
  · have he : putE l = 3 := by unfold putE; rw [HX.out, if_pos hbig]
    have hs : putS l = ⟨#[]⟩ := by unfold putS; rw [he, if_pos (by decide)]
    rw [he, hs]; clear he hs hmay
    have hd : decide ((n : Int) > 4096) = true := decide_eq_true (by omega)
    go_enter Try.func64, Try.ntmps64
    go_wp2
    go_ret2
    exact ⟨rfl, Below.refl _ _⟩
  · have hd : decide ((n : Int) > 4096) = false := decide_eq_false (by omega)
    have he : putE l = mayE l := by unfold putE; rw [HX.out, if_neg hbig]
    rw [he]
    by_cases hm : mayE l = 0
    · have hs : putS l = putL l (numS n) := by unfold putS; rw [he, hm, if_neg (by simp), HX.out]
      rw [hm] at hmay ⊢
      rw [hs]; clear he hs hm
      generalize hps : putL l (numS n) = ps
      have HPS := Lib.hid hps
      clear hps
      go_enter Try.func64, Try.ntmps64
      go_wp2_with fail
      refine hmay.mono ?_
      rintro e w1 ⟨rfl, hb1⟩
      have HB1 := Lib.hid hb1
      clear hb1 hmay
      go_wp2_with fail
      refine (num_c (n : Int) _).mono ?_
      rintro e w2 ⟨rfl, hb2⟩
      have HB2 : Hid (Below w.heap.size w w2) := HB1.out.trans (hb2.mono HB1.out.size)
      clear hb2 HB1
      go_wp2_with fail
      go_loopw [5, 8, 9, 10, 11, 12, 29] (fun vs _ _ _ _ _ vi wr => ∃ (i : Nat), vi = .int .i64 i ∧ i ≤ n ∧ Hid (Below w.heap.size w wr) ∧ vs = .string (putL (l.take i) (numS n))) (fun _ _ _ _ _ _ vi _ => n - (intOf vi).toNat)
      case atStart => exact ⟨0, rfl, by omega, HB2, rfl⟩
      case round =>
        clear HB2
        obtain ⟨i, rfl, hin, HB, rfl⟩ := hrel
        by_cases hlt : i < n
        · obtain ⟨b1, o1, rfl, _, hc1, hc2⟩ := RdD.get (Reads.below HR.out HB.out) hlt
          have HT : Hid (putL (l.take (i + 1)) (numS n) = putL (l.take i) (numS n) ++ (numS (l.getD i default).1 ++ numS (l.getD i default).2)) := by
            show _ = _
            rw [take_nextD l i n HX.out hlt, putL_snoc]
          have hsz := putL_size (l.take i) (numS n)
          have hsz0 := numS_size n
          rw [List.length_take] at hsz
          generalize putL (l.take i) (numS n) = s0 at *
          generalize l.getD i default = d at *
          obtain ⟨d1, d2⟩ := d
          simp only at hc1 hc2 HT
          have hs1 := numS_size d1
          have hs2 := numS_size d2
          have hs3 := ByteArray.size_append (a := numS d1) (b := numS d2)
          have hadd1 := fun w => run_string_add_sum (P := Try.prog) w (numS d1) (numS d2) (by omega)
          have hadd2 := fun w => run_string_add_sum (P := Try.prog) w s0 (numS d1 ++ numS d2) (by omega)
          clear hsz hsz0 hs1 hs2 hs3
          go_wp2_with fail
          refine (num_c d1 _).mono ?_
          rintro e w3 ⟨rfl, hb3⟩
          have hcell : w3.cell? ⟨wr.heap.size, 1, none⟩ = some (.int .i64 d2) := (hb3.cell (p := ⟨wr.heap.size, 1, none⟩) (by simp)).trans (by simp)
          have HB3 : Hid (Below w.heap.size w w3) := (HB.out.alloc HB.out.size _).trans (hb3.mono (Nat.le_trans HB.out.size (by simp)))
          clear hc1 hc2 hb3
          go_wp2_with fail
          refine (num_c d2 _).mono ?_
          rintro e w4 ⟨rfl, hb4⟩
          have HB4 : Hid (Below w.heap.size w w4) := HB3.out.trans (hb4.mono HB3.out.size)
          clear hb4 hcell
          go_wp2_with fail
          go_roundw
          case rel => exact ⟨i + 1, by go_num, by omega, HB4, congrArg _ HT.out.symm⟩
          case measure => simp [intOf]; omega
        · have hin' : i = n := by omega
          have HE : Hid (putL (l.take i) (numS n) = ps) := by
            show _ = _
            rw [hin', List.take_of_length_le (by rw [HX.out]; exact Nat.le_refl _)]; exact HPS.out
          clear hin'
          generalize putL (l.take i) (numS n) = s0 at *
          go_wp2
          go_ret2
          exact ⟨ret_si2 HE.out rfl, HB.out⟩
    · have hs : putS l = ⟨#[]⟩ := by unfold putS; rw [he, if_pos hm]
      rw [hs]
      have hb : (mayE l != 0) = true := by simpa using hm
      clear he hs hm
      generalize mayE l = e at *
      go_enter Try.func64, Try.ntmps64
      go_wp2_with fail
      refine hmay.mono ?_
      rintro e w1 ⟨rfl, hb1⟩
      go_wp2
      go_ret2
      exact ⟨rfl, hb1⟩
set_option maxHeartbeats 2000000 in
set_option maxRecDepth 100000 in
theorem rput_c (A : Option Addr) (n c B : Nat) (l : List (Int × Int)) (w : World) (h1 : RdD w B A n l) (hB : B ≤ w.heap.size) (hn : n < 1000000) :
    Calls Try.prog 68 #[.slice A n c] w fun e w' => e = .returned (.tuple #[.string (putS l), .int .i64 (putE l)]) ∧ Below w.heap.size w w' := by
  have HX := Lib.hid h1.len
  have HR := Lib.hid (Reads.more h1 hB)
  have hmay := rchecks_c A n c B l w h1 hB hn
  clear h1 hB
  by_cases hbig : 4096 < n
  · have he : putE l = 3 := by unfold putE; rw [HX.out, if_pos hbig]
    have hs : putS l = ⟨#[]⟩ := by unfold putS; rw [he, if_pos (by decide)]
    rw [he, hs]; clear he hs hmay
    have hd : decide ((n : Int) > 4096) = true := decide_eq_true (by omega)
    go_enter Try.func68, Try.ntmps68
    go_wp2
    go_ret2
    exact ⟨rfl, Below.refl _ _⟩
  · have hd : decide ((n : Int) > 4096) = false := decide_eq_false (by omega)
    have he : putE l = mayE l := by unfold putE; rw [HX.out, if_neg hbig]
    rw [he]
    by_cases hm : mayE l = 0
    · have hs : putS l = putL l (numS n) := by unfold putS; rw [he, hm, if_neg (by simp), HX.out]
      rw [hm] at hmay ⊢
      rw [hs]; clear he hs hm
      generalize hps : putL l (numS n) = ps
      have HPS := Lib.hid hps
      clear hps
      go_enter Try.func68, Try.ntmps68
      go_wp2_with fail
      refine hmay.mono ?_
      rintro e w1 ⟨rfl, hb1⟩
      have HB1 := Lib.hid hb1
      clear hb1 hmay
      go_wp2_with fail
      refine (rnum_c (n : Int) _).mono ?_
      rintro e w2 ⟨rfl, hb2⟩
      have HB2 : Hid (Below w.heap.size w w2) := HB1.out.trans (hb2.mono HB1.out.size)
      clear hb2 HB1
      go_wp2_with fail
      go_loopw [5, 7, 8, 9, 10, 11] (fun vs vi _ _ _ _ wr => ∃ (i : Nat), vi = .int .i64 i ∧ i ≤ n ∧ Hid (Below w.heap.size w wr) ∧ vs = .string (putL (l.take i) (numS n))) (fun _ vi _ _ _ _ _ => n - (intOf vi).toNat)
      case atStart => exact ⟨0, rfl, by omega, HB2, rfl⟩
      case round =>
        clear HB2
        obtain ⟨i, rfl, hin, HB, rfl⟩ := hrel
        by_cases hlt : i < n
        · obtain ⟨b1, o1, rfl, hb1, hc1, hc2⟩ := RdD.get (Reads.below HR.out HB.out) hlt
          have HT : Hid (putL (l.take (i + 1)) (numS n) = putL (l.take i) (numS n) ++ (numS (l.getD i default).1 ++ numS (l.getD i default).2)) := by
            show _ = _
            rw [take_nextD l i n HX.out hlt, putL_snoc]
          have hsz := putL_size (l.take i) (numS n)
          have hsz0 := numS_size n
          rw [List.length_take] at hsz
          generalize putL (l.take i) (numS n) = s0 at *
          generalize l.getD i default = d at *
          obtain ⟨d1, d2⟩ := d
          simp only at hc1 hc2 HT
          have hs1 := numS_size d1
          have hs2 := numS_size d2
          have hs3 := ByteArray.size_append (a := s0) (b := numS d1)
          have hadd1 := fun w => run_string_add_sum (P := Try.prog) w s0 (numS d1) (by omega)
          have hadd2 := fun w => run_string_add_sum (P := Try.prog) w (s0 ++ numS d1) (numS d2) (by omega)
          have HT2 : Hid (s0 ++ numS d1 ++ numS d2 = putL (l.take (i + 1)) (numS n)) := by
            show _ = _
            rw [HT.out]; exact ba_ext (by rw [app_data, app_data, app_data, app_data, List.append_assoc])
          clear hsz hsz0 hs1 hs2 hs3 HT
          go_wp2_with fail
          refine (rnum_c d1 _).mono ?_
          rintro e w3 ⟨rfl, hb3⟩
          have hcell : w3.cell? ⟨b1, o1 + i * 2 + 1, none⟩ = some (.int .i64 d2) := (hb3.cell (p := ⟨b1, o1 + i * 2 + 1, none⟩) (Nat.lt_of_lt_of_le hb1 HB.out.size)).trans hc2
          have HB3 : Hid (Below w.heap.size w w3) := HB.out.trans (hb3.mono HB.out.size)
          clear hc1 hc2 hb3
          go_wp2_with fail
          refine (rnum_c d2 _).mono ?_
          rintro e w4 ⟨rfl, hb4⟩
          have HB4 : Hid (Below w.heap.size w w4) := HB3.out.trans (hb4.mono HB3.out.size)
          clear hb4 hcell
          go_wp2_with fail
          go_roundw
          case rel => exact ⟨i + 1, by go_num, by omega, HB4, congrArg _ HT2.out⟩
          case measure => simp [intOf]; omega
        · have hin' : i = n := by omega
          have HE : Hid (putL (l.take i) (numS n) = ps) := by
            show _ = _
            rw [hin', List.take_of_length_le (by rw [HX.out]; exact Nat.le_refl _)]; exact HPS.out
          clear hin'
          generalize putL (l.take i) (numS n) = s0 at *
          go_wp2
          go_ret2
          exact ⟨ret_si2 HE.out rfl, HB.out⟩
    · have hs : putS l = ⟨#[]⟩ := by unfold putS; rw [he, if_pos hm]
      rw [hs]
      have hb : (mayE l != 0) = true := by simpa using hm
      clear he hs hm
      generalize mayE l = e at *
      go_enter Try.func68, Try.ntmps68
      go_wp2_with fail
      refine hmay.mono ?_
      rintro e w1 ⟨rfl, hb1⟩
      go_wp2
      go_ret2
      exact ⟨rfl, hb1⟩
end Go.Proofs.Ytmhkalalcmkpbaa

namespace Go.Proofs.Ytmhkalalcmkpbaa
open Go.RowKit
set_option linter.unusedVariables false
set_option linter.unusedSimpArgs false

theorem Rdr.grown {w w' : World} {p g : Nat} {s : ByteArray} {e : Int} (h : Rdr w p s e) (hb : Below g w w') (hg : p < g) : Rdr w' p s e :=
  ⟨Nat.lt_of_lt_of_le h.lt hb.size, (hb.cell (p := ⟨p, 0, none⟩) hg).trans h.text, (hb.cell (p := ⟨p, 1, none⟩) hg).trans h.err, (hb.frozen (p := ⟨p, 0, none⟩) hg).trans h.free0, (hb.frozen (p := ⟨p, 1, none⟩) hg).trans h.free1⟩
theorem OwnD.lenV {w : World} {base : Nat} {v : Value} {l : List (Int × Int)} (h : OwnD w base v l) : lenV v = l.length :=
  own_lenV h
/-- What Read answers: the names and the error. -/
def RetR (w0 : Nat) (w' : World) (e : Ending) (l : List (Int × Int)) (er : Int) : Prop := ∃ A m c, e = .returned (.tuple #[.slice A m c, .int .i64 er]) ∧ m ≤ c ∧ RdD w' w'.heap.size A m l
/-- The same, and the slice is of the call's own. -/
def RetO (w0 : Nat) (w' : World) (e : Ending) (l : List (Int × Int)) (er : Int) : Prop := ∃ v, e = .returned (.tuple #[v, .int .i64 er]) ∧ OwnD w' w0 v l
theorem RetO.weak {w0 : Nat} {w' : World} {e : Ending} {l : List (Int × Int)} {er : Int} (h : RetO w0 w' e l er) : RetR w0 w' e l er := by
  obtain ⟨v, rfl, ho⟩ := h
  obtain ⟨A, c, rfl, hc, hr⟩ := OwnD.form ho
  exact ⟨A, _, c, rfl, hc, hr⟩
theorem rdL_step (n : Nat) (st : ByteArray × Int) (h : st.2 = 0) : rdL (n + 1) st = ((((rdN st).1 : Int), ((rdN (rdN st).2).1 : Int)) :: (rdL n (rdN (rdN st).2).2).1, (rdL n (rdN (rdN st).2).2).2) := by
  show (if st.2 ≠ 0 then _ else _) = _
  rw [if_neg (by simpa using h)]
theorem rdL_stop (n : Nat) (st : ByteArray × Int) (h : st.2 ≠ 0) : rdL n st = ([], st) := by
  cases n with
  | zero => rfl
  | succ n => show (if st.2 ≠ 0 then _ else _) = _
              rw [if_pos h]
/-- Where the reading stands: what is read, and what is to come. -/
def Stands (n : Nat) (st0 : ByteArray × Int) (acc : List (Int × Int)) (st : ByteArray × Int) : Prop :=
  acc.length ≤ n ∧ rdL n st0 = (acc ++ (rdL (n - acc.length) st).1, (rdL (n - acc.length) st).2)
theorem Stands.start (n : Nat) (st : ByteArray × Int) : Stands n st [] st := ⟨Nat.zero_le _, by simp⟩
theorem Stands.next {n : Nat} {st0 st : ByteArray × Int} {acc : List (Int × Int)} (h : Stands n st0 acc st) (h0 : st.2 = 0) (hl : acc.length < n) : Stands n st0 (acc ++ [(((rdN st).1 : Int), ((rdN (rdN st).2).1 : Int))]) (rdN (rdN st).2).2 := by
  have e : n - acc.length = (n - (acc.length + 1)) + 1 := by omega
  have h2 := h.2
  rw [e, rdL_step _ _ h0] at h2
  refine ⟨by simp; omega, ?_⟩
  rw [h2]; simp
theorem Stands.done {n : Nat} {st0 st : ByteArray × Int} {acc : List (Int × Int)} (h : Stands n st0 acc st) (hd : ¬ (acc.length < n ∧ st.2 = 0)) : rdL n st0 = (acc, st) := by
  have h2 := h.2
  by_cases hl : acc.length < n
  · rw [rdL_stop _ _ (fun g => hd ⟨hl, g⟩)] at h2
    simpa using h2
  · rw [show n - acc.length = 0 by have := h.1; omega] at h2
    simpa [rdL] using h2
theorem readD_long (s : ByteArray) (h : 4096 < (rdN (s, 0)).1) : readD s = ([], 3) := by unfold readD; rw [if_pos h]
theorem readD_done {s : ByteArray} {l : List (Int × Int)} {st : ByteArray × Int} (h : ¬ 4096 < (rdN (s, 0)).1) (hr : rdL (rdN (s, 0)).1 (rdN (s, 0)).2 = (l, st)) :
    readD s = if doneE st ≠ 0 then ([], doneE st) else if mayE l ≠ 0 then ([], mayE l) else (l, 0) := by
  unfold readD; rw [if_neg h, hr]

set_option maxHeartbeats 4000000 in
set_option maxRecDepth 100000 in
theorem readO_c (s : ByteArray) (hs : s.size < 1000000000) (w : World) :
    Calls Try.prog 84 #[.string s] w fun e w' => RetO w.heap.size w' e (readD s).1 (readD s).2 ∧ Below w.heap.size w w' := by
  have hst := fun W => rnum_read w.heap.size s 0 W
  have hsz1 := rdN_size (s, 0)
  simp only at hsz1
  generalize hx1 : rdN (s, 0) = x1 at *
  have HX1 := Lib.hid hx1
  clear hx1
  have HLONG : Hid (4096 < x1.1 → readD s = ([], 3)) := fun h => readD_long s (by rw [HX1.out]; exact h)
  have HDONE : Hid (¬ 4096 < x1.1 → ∀ l st, rdL x1.1 x1.2 = (l, st) → readD s = if doneE st ≠ 0 then ([], doneE st) else if mayE l ≠ 0 then ([], mayE l) else (l, 0)) :=
    fun h l st hr => readD_done (by rw [HX1.out]; exact h) (by rw [HX1.out]; exact hr)
  clear HX1
  generalize readD s = res at *
  obtain ⟨rl, re⟩ := res
  obtain ⟨n, s1, e1⟩ := x1
  simp only at hst hsz1 HLONG HDONE ⊢
  go_enter Try.func84, Try.ntmps84
  go_wp2_with fail
  refine (new_c s _).mono ?_
  rintro e w1 ⟨rfl, rfl⟩
  have hr0 := Rdr.start s w
  have HB1 : Hid (Below w.heap.size w (w.alloc (.cells #[.string s, .int .i64 0] 177))) := (Below.refl _ _).alloc (Nat.le_refl _) _
  generalize w.alloc (.cells #[.string s, .int .i64 0] 177) = w1 at *
  have hst1 := hst w1 hr0 (by omega)
  have HLT1 : Hid (w.heap.size < w1.heap.size) := hr0.lt
  clear hst hr0
  go_wp2_with fail
  refine hst1.mono ?_
  rintro e w2 ⟨rfl, hrd2, hg2⟩
  have HR2 := Lib.hid hrd2
  have HB2 : Hid (Below w.heap.size w w2) := HB1.out.trans (below_of_grown hg2 (by have := HLT1.out; omega) (Nat.le_refl _))
  have HLT2 : Hid (w.heap.size < w2.heap.size) := hrd2.lt
  clear hst1 hrd2 hg2 HB1 HLT1
  by_cases hbig : 4096 < n
  · have HE := Lib.hid (HLONG.out hbig)
    have hd : decide ((n : Int) > 4096) = true := decide_eq_true (by omega)
    clear HLONG HDONE hbig
    go_wp2_with fail
    go_ret2
    have hE := HE.out
    injection hE with hE1 hE2
    subst hE1 hE2
    exact ⟨⟨_, rfl, OwnD.nil _ _⟩, HB2.out⟩
  · have hd : decide ((n : Int) > 4096) = false := decide_eq_false (by omega)
    have HN : Hid (n ≤ 4096) := by show _ ≤ _; omega
    have HD := Lib.hid (HDONE.out hbig)
    clear HLONG HDONE hbig
    go_wp2_with fail
    go_loopw [6] (fun vo wr => ∃ (acc : List (Int × Int)) (s2 : ByteArray) (e2 : Int), Hid (OwnD wr w2.heap.size vo acc) ∧ Hid (Rdr wr w.heap.size s2 e2) ∧ Hid (Below w.heap.size w wr) ∧ Hid (Stands n (s1, e1) acc (s2, e2)) ∧ Hid (w2.heap.size ≤ wr.heap.size) ∧ s2.size ≤ s1.size) (fun vo _ => n - lenV vo)
    case atStart => exact ⟨[], s1, e1, World.ownsRow_nil _ _ _ _, HR2, HB2, Stands.start _ _, Nat.le_refl _, Nat.le_refl _⟩
    case round =>
      clear HR2 HB2
      obtain ⟨acc, s2, e2, HO, HRD, HB, HS, HWW, hsz2⟩ := hrel
      obtain ⟨Ao, co, rfl, hco, hro⟩ := OwnD.form HO.out
      have HRO := Lib.hid hro
      have HCO := Lib.hid hco
      clear hro hco
      have hec := err_c w.heap.size s2 e2 wr HRD.out
      by_cases hlt : acc.length < n
      · by_cases he : e2 = 0
        · subst he
          have hd3 : decide ((acc.length : Int) < (n : Int)) = true := decide_eq_true (by omega)
          have HS2 := Lib.hid (HS.out.next rfl hlt)
          have hn1 := rnum_read w.heap.size s2 0 wr HRD.out (by omega)
          have hz1 := rdN_size (s2, 0)
          simp only at hz1
          generalize rdN (s2, 0) = y1 at *
          obtain ⟨a1, s3, e3⟩ := y1
          simp only at hn1 hz1 HS2
          have hz2 := rdN_size (s3, e3)
          have hn2 := fun W (h : Rdr W w.heap.size s3 e3) => rnum_read w.heap.size s3 e3 W h (by omega)
          simp only at hz2
          generalize rdN (s3, e3) = y2 at *
          obtain ⟨a2, s4, e4⟩ := y2
          simp only at hn2 hz2 HS2
          clear HD HS HRO HCO
          go_wp2_with fail
          refine hec.mono ?_
          rintro e w5 ⟨rfl, rfl⟩
          go_wp2_with fail
          refine hn1.mono ?_
          rintro e w3 ⟨rfl, hrd3, hg3⟩
          have HO3 := Lib.hid (own_grown HO.out hg3 HLT2.out)
          have HB3 : Hid (Below w.heap.size w w3) := HB.out.trans (below_of_grown hg3 HB.out.size (Nat.le_refl _))
          have HW3 : Hid (w2.heap.size ≤ w3.heap.size) := Nat.le_trans HWW.out hg3.size
          have hn3 := hn2 w3 hrd3
          clear hn1 hn2 hrd3 hg3 hec
          go_wp2_with fail
          refine hn3.mono ?_
          rintro e w4 ⟨rfl, hrd4, hg4⟩
          have HO4 := Lib.hid (own_grown HO3.out hg4 HLT2.out)
          have HB4 : Hid (Below w.heap.size w w4) := HB3.out.trans (below_of_grown hg4 HB3.out.size (Nat.le_refl _))
          have HR4 := Lib.hid hrd4
          have HW4 : Hid (w2.heap.size ≤ w4.heap.size) := Nat.le_trans HW3.out hg4.size
          clear hn3 hrd4 hg4 HO3 HB3 HW3
          go_wp2_with (at_builtin; refine app_dot1 (a1 : Int) (a2 : Int) HO4.out (by have := HN.out; omega) HW4.out rfl _ _ rfl rfl rfl ?_; intro v5 w5 ho5 hb5)
          have HO5 := Lib.hid ho5
          have HR5 : Hid (Rdr w5 w.heap.size s4 e4) := HR4.out.grown hb5 HLT2.out
          have HB5 : Hid (Below w.heap.size w w5) := HB4.out.trans (hb5.mono (Nat.le_of_lt HLT2.out))
          have hlen5 := OwnD.lenV ho5
          rw [List.length_append, List.length_singleton] at hlen5
          have HL5 := Lib.hid hlen5
          have HW5 : Hid (w2.heap.size ≤ w5.heap.size) := Nat.le_trans HW4.out hb5.size
          clear ho5 hb5 hlen5
          go_roundw
          case rel => exact ⟨_, s4, e4, HO5, HR5, HB5, HS2, HW5, by omega⟩
          case measure => rw [HL5.out]; show _ < n - acc.length; omega
        · have hd3 : decide ((acc.length : Int) < (n : Int)) = true := decide_eq_true (by omega)
          have heb : (e2 == 0) = false := by simpa using he
          have HLAST : Hid ((rl, re) = if doneE (s2, e2) ≠ 0 then ([], doneE (s2, e2)) else if mayE acc ≠ 0 then ([], mayE acc) else (acc, 0)) := HD.out acc (s2, e2) (HS.out.done (by simp only; omega))
          have hdc := done_c w.heap.size s2 e2 wr HRD.out
          have hac : acc.length < 1000000 := by have := HS.out.1; have := HN.out; omega
          have hmc := fun W (h : RdD W W.heap.size Ao acc.length acc) => may_c Ao acc.length co W.heap.size acc W h (Nat.le_refl _) hac
          have HRO2 := HRO
          generalize doneE (s2, e2) = d1 at *
          generalize hma : mayE acc = m1 at *
          clear hma hac
          by_cases hd1 : d1 = 0
          · subst hd1
            by_cases hm1 : m1 = 0
            · subst hm1
              have HE : Hid ((rl, re) = (acc, 0)) := by
                show _ = _
                have := HLAST.out
                rwa [if_neg (by simp), if_neg (by simp)] at this
              clear HLAST HD HS
              go_wp2_with fail
              refine hec.mono ?_
              rintro e w8 ⟨rfl, rfl⟩
              go_wp2_with fail
              refine hdc.mono ?_
              rintro e w5 ⟨rfl, rfl⟩
              go_wp2_with fail
              refine (hmc _ HRO.out).mono ?_
              rintro e w6 ⟨rfl, hb6⟩
              go_wp2_with fail
              go_ret2
              have hE := HE.out
              injection hE with hE1 hE2
              subst hE1 hE2
              exact ⟨⟨_, rfl, World.ownsRow.mono (own_below HO.out hb6) (Nat.le_of_lt HLT2.out)⟩, HB.out.trans (hb6.mono HB.out.size)⟩
            · have HE : Hid ((rl, re) = ([], m1)) := by
                show _ = _
                have := HLAST.out
                rwa [if_neg (by simp), if_pos hm1] at this
              have hbm : (m1 != 0) = true := by simpa using hm1
              clear HLAST HD HS hm1
              go_wp2_with fail
              refine hec.mono ?_
              rintro e w8 ⟨rfl, rfl⟩
              go_wp2_with fail
              refine hdc.mono ?_
              rintro e w5 ⟨rfl, rfl⟩
              go_wp2_with fail
              refine (hmc _ HRO.out).mono ?_
              rintro e w6 ⟨rfl, hb6⟩
              go_wp2_with fail
              go_ret2
              have hE := HE.out
              injection hE with hE1 hE2
              subst hE1 hE2
              exact ⟨⟨_, rfl, OwnD.nil _ _⟩, HB.out.trans (hb6.mono HB.out.size)⟩
          · have HE : Hid ((rl, re) = ([], d1)) := by
              show _ = _
              have := HLAST.out
              rwa [if_pos hd1] at this
            have hbd : (d1 != 0) = true := by simpa using hd1
            clear HLAST HD HS hd1 hmc
            go_wp2_with fail
            refine hec.mono ?_
            rintro e w8 ⟨rfl, rfl⟩
            go_wp2_with fail
            refine hdc.mono ?_
            rintro e w5 ⟨rfl, rfl⟩
            go_wp2_with fail
            go_ret2
            have hE := HE.out
            injection hE with hE1 hE2
            subst hE1 hE2
            exact ⟨⟨_, rfl, OwnD.nil _ _⟩, HB.out⟩
      · have hd3 : decide ((acc.length : Int) < (n : Int)) = false := decide_eq_false (by omega)
        have HLAST : Hid ((rl, re) = if doneE (s2, e2) ≠ 0 then ([], doneE (s2, e2)) else if mayE acc ≠ 0 then ([], mayE acc) else (acc, 0)) := HD.out acc (s2, e2) (HS.out.done (by simp only; omega))
        have hdc := done_c w.heap.size s2 e2 wr HRD.out
        have hac : acc.length < 1000000 := by have := HS.out.1; have := HN.out; omega
        have hmc := fun W (h : RdD W W.heap.size Ao acc.length acc) => may_c Ao acc.length co W.heap.size acc W h (Nat.le_refl _) hac
        have HRO2 := HRO
        generalize doneE (s2, e2) = d1 at *
        generalize hma : mayE acc = m1 at *
        clear hma hac
        by_cases hd1 : d1 = 0
        · subst hd1
          by_cases hm1 : m1 = 0
          · subst hm1
            have HE : Hid ((rl, re) = (acc, 0)) := by
              show _ = _
              have := HLAST.out
              rwa [if_neg (by simp), if_neg (by simp)] at this
            clear HLAST HD HS
            go_wp2_with fail
            refine hdc.mono ?_
            rintro e w5 ⟨rfl, rfl⟩
            go_wp2_with fail
            refine (hmc _ HRO.out).mono ?_
            rintro e w6 ⟨rfl, hb6⟩
            go_wp2_with fail
            go_ret2
            have hE := HE.out
            injection hE with hE1 hE2
            subst hE1 hE2
            exact ⟨⟨_, rfl, World.ownsRow.mono (own_below HO.out hb6) (Nat.le_of_lt HLT2.out)⟩, HB.out.trans (hb6.mono HB.out.size)⟩
          · have HE : Hid ((rl, re) = ([], m1)) := by
              show _ = _
              have := HLAST.out
              rwa [if_neg (by simp), if_pos hm1] at this
            have hbm : (m1 != 0) = true := by simpa using hm1
            clear HLAST HD HS hm1
            go_wp2_with fail
            refine hdc.mono ?_
            rintro e w5 ⟨rfl, rfl⟩
            go_wp2_with fail
            refine (hmc _ HRO.out).mono ?_
            rintro e w6 ⟨rfl, hb6⟩
            go_wp2_with fail
            go_ret2
            have hE := HE.out
            injection hE with hE1 hE2
            subst hE1 hE2
            exact ⟨⟨_, rfl, OwnD.nil _ _⟩, HB.out.trans (hb6.mono HB.out.size)⟩
        · have HE : Hid ((rl, re) = ([], d1)) := by
            show _ = _
            have := HLAST.out
            rwa [if_pos hd1] at this
          have hbd : (d1 != 0) = true := by simpa using hd1
          clear HLAST HD HS hd1 hmc
          go_wp2_with fail
          refine hdc.mono ?_
          rintro e w5 ⟨rfl, rfl⟩
          go_wp2_with fail
          go_ret2
          have hE := HE.out
          injection hE with hE1 hE2
          subst hE1 hE2
          exact ⟨⟨_, rfl, OwnD.nil _ _⟩, HB.out⟩
theorem read_c (s : ByteArray) (hs : s.size < 1000000000) (w : World) :
    Calls Try.prog 84 #[.string s] w fun e w' => RetR w.heap.size w' e (readD s).1 (readD s).2 ∧ Below w.heap.size w w' :=
  (readO_c s hs w).mono fun _ _ h => ⟨h.1.weak, h.2⟩
end Go.Proofs.Ytmhkalalcmkpbaa
