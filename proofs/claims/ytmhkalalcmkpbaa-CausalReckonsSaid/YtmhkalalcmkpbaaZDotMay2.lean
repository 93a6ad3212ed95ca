/-
  DotMay2
-/
import Derived.Test.YtmhkalalcmkpbaaZDotMay
import Derived.Test.YtmhkalalcmkpbaaZTools
namespace Go.Proofs.Ytmhkalalcmkpbaa
open Go.RowKit
set_option linter.unusedVariables false
set_option linter.unusedSimpArgs false
attribute [local go_sem] eq_dot guard_dot

set_option maxHeartbeats 2000000 in
set_option maxRecDepth 100000 in
theorem may_c (A : Option Addr) (n c B : Nat) (l : List (Int × Int)) (w : World) (h1 : RdD w B A n l) (hB : B ≤ w.heap.size) (hn : n < 1000000) :
    Calls Try.prog 125 #[.slice A n c] w fun e w' => e = .returned (.int .i64 (mayE l)) ∧ Below w.heap.size w w' := by
  have HX := Lib.hid h1.len
  have HR := Lib.hid (Reads.more h1 hB)
  clear h1 hB
  generalize hr : mayE l = r
  have HD : Hid ((chkTo l n ≠ 0 → r = chkTo l n) ∧ (chkTo l n = 0 → Rises l n → r = 0) ∧ (chkTo l n = 0 → ¬ Rises l n → r = 5)) := by
    have hx := HX.out
    subst hx
    refine ⟨fun h => ?_, fun h g => ?_, fun h g => ?_⟩
    · rw [← hr]; unfold mayE; rw [if_pos h]
    · rw [← hr]; unfold mayE; rw [if_neg (by simpa using h), if_pos g]
    · rw [← hr]; unfold mayE; rw [if_neg (by simpa using h), if_neg g]
  clear hr
  go_enter Try.func125, Try.ntmps125
  go_wp2_with fail
  go_loopw [4, 5, 9] (fun _ _ vi wr => ∃ (i : Nat), vi = .int .i64 i ∧ i ≤ n ∧ Hid (Below w.heap.size w wr) ∧ Hid (chkTo l i = 0)) (fun _ _ vi _ => n - (intOf vi).toNat)
  case atStart => exact ⟨0, rfl, by omega, Below.refl _ _, rfl⟩
  case round =>
    obtain ⟨i, rfl, hin, HB, HE⟩ := hrel
    by_cases hlt : i < n
    · obtain ⟨b1, o1, rfl, _, hc1, hc2⟩ := RdD.get (Reads.below HR.out HB.out) hlt
      have hck := check_c
      have hcc := check_c (l.getD i default)
      have HN : Hid (chkTo l (i + 1) = chk (l.getD i default)) := by
        show (if chkTo l i ≠ 0 then _ else _) = _
        rw [if_neg (by simpa using HE.out)]
      generalize l.getD i default = d at hc1 hc2 hcc HN
      obtain ⟨d1, d2⟩ := d
      simp only at hc1 hc2 hcc
      generalize chk (d1, d2) = e at hcc HN
      by_cases he : e = 0
      · subst he
        go_wp2_with (go_at_call 70; refine (hcc _).mono ?_; rintro e w1 ⟨rfl, hb1⟩)
        have HB1 : Hid (Below w.heap.size w w1) := (HB.out.alloc HB.out.size _).trans (hb1.mono (Nat.le_trans HB.out.size (by simp)))
        go_roundw
        case rel => exact ⟨i + 1, by go_num, by omega, HB1, HN⟩
        case measure => simp [intOf]; omega
      · have heb : (e != 0) = true := by simpa using he
        have hne : chkTo l (i + 1) ≠ 0 := by rw [HN.out]; exact he
        have HR2 : Hid (e = r) := by
          show _ = _
          have := chkTo_stop l (i + 1) hne n (by omega)
          have h2 := HD.out.1 (by rw [this]; exact hne)
          rw [h2, this]; exact HN.out.symm
        clear hne he
        go_wp2_with (go_at_call 70; refine (hcc _).mono ?_; rintro e w1 ⟨rfl, hb1⟩)
        go_ret
        exact ⟨ret_int HR2.out, (HB.out.alloc HB.out.size _).trans (hb1.mono (Nat.le_trans HB.out.size (by simp)))⟩
    · have hin' : i = n := by omega
      subst hin'
      have HC : Hid (chkTo l i = 0) := HE
      clear HE
      obtain ⟨w3, hw3⟩ : ∃ w3, w3 = wr := ⟨_, rfl⟩
      subst hw3
      go_wp2_with fail
      go_loopw [6] (fun vk wr2 => ∃ (k : Nat), vk = .int .i64 k ∧ 1 ≤ k ∧ (k ≤ i ∨ k = 1) ∧ Hid (Below w.heap.size w wr2) ∧ Hid (Rises l k)) (fun vk _ => i - (intOf vk).toNat)
      case atStart => exact ⟨1, rfl, by omega, by omega, HB, fun j hj h => by omega⟩
      case round =>
        clear HB
        obtain ⟨k, rfl, hk1, hk, HB, HRS⟩ := hrel
        by_cases hlt2 : k < i
        · obtain ⟨b1, o1, rfl, _, hc1, hc2⟩ := RdD.get (Reads.below HR.out HB.out) hlt2
          obtain ⟨b2, o2, e2, _, hd1, hd2⟩ := RdD.get (Reads.below HR.out HB.out) (k := k - 1) (by omega)
          injection e2 with e2; injection e2 with e3 e4; subst e3 e4
          have hls := less_c (l.getD (k - 1) default) (l.getD k default)
          have hew : IntKind.i64.wrap ((k : Int) - 1) = (k : Int) - 1 := by rw [IntKind.wrap_i64]; omega
          have hen : ((k : Int) - 1).toNat = k - 1 := by omega
          have hix : 0 ≤ IntKind.i64.wrap ((k : Int) - 1) ∧ IntKind.i64.wrap ((k : Int) - 1) < (i : Int) := by rw [hew]; omega
          have hiy : 0 ≤ ((k : Int) - 1) ∧ ((k : Int) - 1) < (i : Int) := by omega
          have hiz : 0 ≤ (k : Int) ∧ (k : Int) < (i : Int) := by omega
          have f1 : wr.drew.cell? ⟨b1, o1 + (IntKind.i64.wrap ((k : Int) - 1)).toNat * 2, none⟩ = some (.int .i64 (l.getD (k - 1) default).1) := by rw [hew, hen]; exact hd1
          have f2 : wr.drew.cell? ⟨b1, o1 + (IntKind.i64.wrap ((k : Int) - 1)).toNat * 2 + 1, none⟩ = some (.int .i64 (l.getD (k - 1) default).2) := by rw [hew, hen]; exact hd2
          have f3 : wr.drew.cell? ⟨b1, o1 + k * 2, none⟩ = some (.int .i64 (l.getD k default).1) := hc1
          have f4 : wr.drew.cell? ⟨b1, o1 + k * 2 + 1, none⟩ = some (.int .i64 (l.getD k default).2) := hc2
          have HRS2 : Hid (ltD (l.getD (k - 1) default) (l.getD k default) = true → Rises l (k + 1)) := fun h j hj g => by
            rcases Nat.lt_or_ge j k with g2 | g2
            · exact HRS.out j g2 g
            · obtain rfl : j = k := by omega
              exact h
          have HRN : Hid (ltD (l.getD (k - 1) default) (l.getD k default) = false → ¬ Rises l i) := fun h g => by
            have := g k hlt2 hk1
            rw [h] at this; cases this
          have HBD : Hid (Below w.heap.size w wr.drew) := below_drewN HB.out 1
          have HBW := HB
          clear hew hen hc1 hc2 hd1 hd2 HB HRS
          generalize hbe : ltD (l.getD (k - 1) default) (l.getD k default) = b at *
          have HBE : Hid (b = ltD (l.getD (k - 1) default) (l.getD k default)) := hbe.symm
          clear hbe
          generalize l.getD (k - 1) default = x at *
          generalize l.getD k default = y at *
          obtain ⟨x1, x2⟩ := x
          obtain ⟨y1, y2⟩ := y
          simp only at f1 f2 f3 f4 hls
          have HLT : Hid (b = ltD (x1, x2) (y1, y2)) := HBE
          by_cases hxy : y1 = x1 ∧ y2 = x2
          · obtain ⟨rfl, rfl⟩ := hxy
            have hbf : b = false := by rw [HLT.out]; unfold ltD; rw [decide_eq_false_iff_not]; omega
            have HR3 : Hid (5 = r) := (HD.out.2.2 HC.out (HRN.out hbf)).symm
            have g1 : wr.cell? ⟨b1, o1 + (IntKind.i64.wrap ((k : Int) - 1)).toNat * 2, none⟩ = some (.int .i64 y1) := f1
            have g2 : wr.cell? ⟨b1, o1 + (IntKind.i64.wrap ((k : Int) - 1)).toNat * 2 + 1, none⟩ = some (.int .i64 y2) := f2
            have g3 : wr.cell? ⟨b1, o1 + k * 2, none⟩ = some (.int .i64 y1) := f3
            have g4 : wr.cell? ⟨b1, o1 + k * 2 + 1, none⟩ = some (.int .i64 y2) := f4
            have HBX : Hid (∀ q, Below w.heap.size w (wr.drewN q)) := fun q => below_drewN HBW.out q
            clear g1 g2 g3 g4 hls hbf HRS2 HRN HBW HBE HLT
            go_wp2_with fail
            refine wp_region_still_tail 22 (by kernel_rfl) (by kernel_rfl) ?_
            simp only [List.take_succ_cons, List.take_zero, List.drop_succ_cons, List.drop_zero]
            change wpStill _ _ (World.drew wr) _ _ _
            generalize World.drew wr = w2 at *
            refine wpStill_hold (fun Q5 HQ5 => ?_)
            iterate 11 still_step
            iterate 11 ((with_reducible refine wpStill_step (fun K hK => ?_)); go_simp; (with_reducible refine hK _ ?_); clear hK K)
            refine wpStill_nil (HQ5.out _ ?_)
            clear HQ5
            go_wp2
            go_ret
            exact ⟨ret_int HR3.out, HBX.out 1⟩
          · have hne : ¬ y1 = x1 ∨ (y1 = x1 ∧ ¬ y2 = x2) := by
              by_cases h : y1 = x1
              · exact .inr ⟨h, fun g => hxy ⟨h, g⟩⟩
              · exact .inl h
            clear hxy HLT
            rcases hne with hne | ⟨hne1, hne2⟩
            · go_wp2_with fail
              refine wp_region_still_tail 20 (by kernel_rfl) (by kernel_rfl) ?_
              simp only [List.take_succ_cons, List.take_zero, List.drop_succ_cons, List.drop_zero]
              change wpStill _ _ (World.drew wr) _ _ _
              generalize hw2 : World.drew wr = w2 at *
              repeat still_step
              refine wpStill_nil ?_
              change wpList _ _ _ _ _ (World.drew wr)
              rw [hw2]
              clear hw2 f1 f2 f3 f4
              cases b with
              | true =>
                go_wp2_with (go_at_call 79; refine (hls _).mono ?_; rintro e w5 ⟨rfl, hb5⟩)
                have HB5 : Hid (Below w.heap.size w w5) := HBD.out.trans (hb5.mono HBD.out.size)
                go_roundw
                case rel => exact ⟨k + 1, by go_num, by omega, by omega, HB5, HRS2.out (by first | rfl | trivial)⟩
                case measure => simp [intOf]; omega
              | false =>
                have HR3 : Hid (5 = r) := (HD.out.2.2 HC.out (HRN.out (by first | rfl | trivial))).symm
                go_wp2_with (go_at_call 79; refine (hls _).mono ?_; rintro e w5 ⟨rfl, hb5⟩)
                go_ret
                exact ⟨ret_int HR3.out, HBD.out.trans (hb5.mono HBD.out.size)⟩
            · subst hne1
              go_wp2_with fail
              refine wp_region_still_tail 20 (by kernel_rfl) (by kernel_rfl) ?_
              simp only [List.take_succ_cons, List.take_zero, List.drop_succ_cons, List.drop_zero]
              change wpStill _ _ (World.drew wr) _ _ _
              generalize hw2 : World.drew wr = w2 at *
              repeat still_step
              refine wpStill_nil ?_
              change wpList _ _ _ _ _ (World.drew wr)
              rw [hw2]
              clear hw2 f1 f2 f3 f4
              cases b with
              | true =>
                go_wp2_with (go_at_call 79; refine (hls _).mono ?_; rintro e w5 ⟨rfl, hb5⟩)
                have HB5 : Hid (Below w.heap.size w w5) := HBD.out.trans (hb5.mono HBD.out.size)
                go_roundw
                case rel => exact ⟨k + 1, by go_num, by omega, by omega, HB5, HRS2.out (by first | rfl | trivial)⟩
                case measure => simp [intOf]; omega
              | false =>
                have HR3 : Hid (5 = r) := (HD.out.2.2 HC.out (HRN.out (by first | rfl | trivial))).symm
                go_wp2_with (go_at_call 79; refine (hls _).mono ?_; rintro e w5 ⟨rfl, hb5⟩)
                go_ret
                exact ⟨ret_int HR3.out, HBD.out.trans (hb5.mono HBD.out.size)⟩
        · have HR3 : Hid (0 = r) := by
            show _ = _
            refine (HD.out.2.1 HC.out ?_).symm
            intro j hj g
            exact HRS.out j (by omega) g
          clear HRS
          go_wp2_with fail
          go_ret
          exact ⟨ret_int HR3.out, HB.out⟩
end Go.Proofs.Ytmhkalalcmkpbaa
