/-
  almonrylaw11.DotSorts walked.
-/
import Derived.Test.YtkmmphcmkmacpaaDotAwake
import Derived.Deep.RegionHeld3
import Derived.Deep.DrawnRows
namespace Go.Proofs.Ytkmmphcmkmacpaa
open Go.RowKit
set_option linter.unusedVariables false
set_option linter.unusedSimpArgs false
attribute [local go_sem ↓] Go.wp_at_zero Go.wp_at_succ

set_option maxHeartbeats 4000000 in
set_option maxRecDepth 100000 in
theorem sorts_walk (A : Option Addr) (n c B : Nat) (l : List (Int × Int)) (w : World) (h1 : RdD w B A n l) (hB : B ≤ w.heap.size) :
    Calls Try.prog 9 #[.slice A n c] w fun e w' => e = .returned (.bool true) ∧ Below w.heap.size w w' := by
  have HX := Lib.hid h1.len
  have HR := Lib.hid (Reads.more h1 hB)
  clear h1 hB
  by_cases hbig : 100 < n
  · have hd : decide ((n : Int) > 100) = true := decide_eq_true (by omega)
    go_enter Try.func9, Try.ntmps9
    go_wp2_with fail
    refine (awake11_c _).mono ?_
    rintro e w' ⟨rfl, hb⟩
    go_wp2
    go_ret
    exact ⟨rfl, hb⟩
  · have hd : decide ((n : Int) > 100) = false := decide_eq_false (by omega)
    have HN : Hid (n < 1000000) := by show _ < _; omega
    have hp1 := put_c A n c w.heap.size l w HR.out (Nat.le_refl _) HN.out
    have hp2 := fun W (h : RdD W w.heap.size A n l) (hB : w.heap.size ≤ W.heap.size) => rput_c A n c w.heap.size l W h hB HN.out
    generalize putS l = ps at *
    generalize putE l = pe at *
    go_enter Try.func9, Try.ntmps9
    go_wp2_with fail
    refine hp1.mono ?_
    rintro e w1 ⟨rfl, hb1⟩
    have hp3 := hp2 w1 (Reads.below HR.out hb1) hb1.size
    have HB1 := Lib.hid hb1
    clear hp1 hp2 hb1
    go_wp2_with fail
    refine hp3.mono ?_
    rintro e w2 ⟨rfl, hb2⟩
    have HB2 := keepB hb2 HB1
    clear hp3 hb2 HB1
    go_wp2_with fail
    go_loopw [7] (fun vi wr => ∃ (i : Nat), vi = .int .i64 i ∧ 1 ≤ i ∧ (i ≤ n ∨ i = 1) ∧ Hid (Below w.heap.size w wr)) (fun vi _ => n - (intOf vi).toNat)
    case atStart => exact ⟨1, rfl, by omega, by omega, HB2⟩
    case round =>
      clear HB2
      obtain ⟨i, rfl, hi1, hin, HB⟩ := hrel
      by_cases hlt : i < n
      · obtain ⟨b1, o1, rfl, hb1, hc1, hc2⟩ := RdD.get (Reads.below HR.out HB.out) hlt
        obtain ⟨b2, o2, e2, _, hd1, hd2⟩ := RdD.get (Reads.below HR.out HB.out) (k := i - 1) (by omega)
        injection e2 with e2; injection e2 with e3 e4; subst e3 e4
        have hew : IntKind.i64.wrap ((i : Int) - 1) = (i : Int) - 1 := by rw [IntKind.wrap_i64]; omega
        have hen : ((i : Int) - 1).toNat = i - 1 := by omega
        have hix : 0 ≤ IntKind.i64.wrap ((i : Int) - 1) ∧ IntKind.i64.wrap ((i : Int) - 1) < (n : Int) := by rw [hew]; omega
        have hiy : 0 ≤ ((i : Int) - 1) ∧ ((i : Int) - 1) < (n : Int) := by omega
        have hiz : 0 ≤ (i : Int) ∧ (i : Int) < (n : Int) := by omega
        have f1 : wr.cell? ⟨b1, o1 + (IntKind.i64.wrap ((i : Int) - 1)).toNat * 2, none⟩ = some (.int .i64 (l.getD (i - 1) default).1) := by rw [hew, hen]; exact hd1
        have f2 : wr.cell? ⟨b1, o1 + (IntKind.i64.wrap ((i : Int) - 1)).toNat * 2 + 1, none⟩ = some (.int .i64 (l.getD (i - 1) default).2) := by rw [hew, hen]; exact hd2
        clear hew hen hd1 hd2
        have k1 := check_c (l.getD i default)
        have k2 := rcheck_c (l.getD i default)
        have k3 := less_c (l.getD i default) (l.getD (i - 1) default)
        have k4 := rless_c (l.getD i default) (l.getD (i - 1) default)
        generalize ltD (l.getD i default) (l.getD (i - 1) default) = b at *
        generalize chk (l.getD i default) = ck at *
        generalize l.getD (i - 1) default = x at *
        generalize l.getD i default = y at *
        obtain ⟨x1, x2⟩ := x
        obtain ⟨y1, y2⟩ := y
        simp only at f1 f2 hc1 hc2 k1 k2 k3 k4
        have hck : (ck != ck) = false := by simp
        have HKB : KB w wr := .mk HB.out
        go_wp2_with fail
        go_region_held3 (fun W => W.cell? ⟨b1, o1 + (IntKind.i64.wrap ((i : Int) - 1)).toNat * 2, none⟩ = some (.int .i64 x1) ∧ W.cell? ⟨b1, o1 + (IntKind.i64.wrap ((i : Int) - 1)).toNat * 2 + 1, none⟩ = some (.int .i64 x2) ∧ W.cell? ⟨b1, o1 + i * 2, none⟩ = some (.int .i64 y1) ∧ W.cell? ⟨b1, o1 + i * 2 + 1, none⟩ = some (.int .i64 y2) ∧ KB w W) (first | (obtain ⟨q1, q2, q3, q4, q5⟩ := ‹_ ∧ _ ∧ _ ∧ _ ∧ KB w _›; exact ⟨keepc hbk q1, keepc hbk q2, keepc hbk q3, keepc hbk q4, KB.call hbk q5⟩) | exact ⟨by assumption, by assumption, by assumption, by assumption, KB.drew (by assumption)⟩) (first | (go_at_call 46; refine (k1 _).mono ?_; rintro e w' ⟨rfl, hbk⟩) | (go_at_call 47; refine (k2 _).mono ?_; rintro e w' ⟨rfl, hbk⟩) | (go_at_call 48; refine (k3 _).mono ?_; rintro e w' ⟨rfl, hbk⟩) | (go_at_call 49; refine (k4 _).mono ?_; rintro e w' ⟨rfl, hbk⟩))
        obtain ⟨_, _, _, _, hkb⟩ := ‹_ ∧ _ ∧ _ ∧ _ ∧ KB w _›
        have HB2 := Lib.hid hkb.out
        clear hkb hbk hc1 hc2 f1 f2 hix hiy hiz k1 k2 k3 k4
        go_wp2
        go_roundw
        case rel => exact ⟨i + 1, by go_num, by omega, by omega, HB2⟩
        case measure => simp [intOf]; omega
      · have hs1 := sort_c A n c w.heap.size l wr (Reads.below HR.out HB.out) HB.out.size HN.out
        have HLN : Hid ((sortK ltD l).length < 1000000) := by
          have h1 := sortK_length_le (lt := ltD) l
          have h2 := HX.out
          have h3 := HN.out
          show _ < _; omega
        go_wp2_with fail
        refine hs1.mono ?_
        rintro e w3 ⟨⟨A3, m3, c3, rfl, hc3, hr3⟩, hb3⟩
        have HB3 := keepB hb3 HB
        have HL3 := Lib.hid hr3.len
        have HR3 := Lib.hid hr3
        have hs2 := rsort_c A n c w.heap.size l w3 (Reads.below HR.out HB3.out) HB3.out.size HN.out
        clear hs1 hb3 hc3 hr3
        go_wp2_with fail
        refine hs2.mono ?_
        rintro e w4 ⟨v4, rfl, ho4, hb4⟩
        obtain ⟨A4, c4, rfl, hc4, hr4⟩ := OwnD.form ho4
        have HB4 := keepB hb4 HB3
        have hsm := rsame_c A3 A4 m3 _ c3 c4 _ _ _ _ w4 (Reads.below HR3.out hb4) hr4 (by have := HLN.out; have := HL3.out; omega) HLN.out
        rw [decide_eq_true rfl] at hsm
        clear hs2 hb4 ho4 hc4 hr4
        go_wp2_with fail
        refine hsm.mono ?_
        rintro e w5 ⟨rfl, q, rfl⟩
        clear hsm
        go_wp2_with fail
        refine (awake11_c _).mono ?_
        rintro e w6 ⟨rfl, hb6⟩
        go_wp2
        go_ret
        exact ⟨rfl, (keepB hb6 (w := w) (by exact below_drewN HB4.out q)).out⟩
end Go.Proofs.Ytkmmphcmkmacpaa
