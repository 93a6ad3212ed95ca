/-
  almonrylaw33.StatsTurned answers true: the walk.
-/
import Derived.Test.YtngjfeielpnnnaaStats
namespace Go.Proofs.Ytngjfeielpnnnaa
open Go.RowKit
open FloatPlain
open Stable
set_option linter.unusedVariables false
set_option linter.unusedSimpArgs false
attribute [local go_sem] run_frombits run_bits u64_signed run_store_float

theorem srt_rev (xs : List Nat) (hok : ∀ x ∈ xs, W64 x) : srtF xs.reverse = srtF xs := (ssort_turn (List.reverse_perm xs).symm hok).symm
theorem any_next (xs : List Nat) (k n : Nat) (hn : xs.length = n) (hk : k < n) : (xs.take (k + 1)).any isNanB = ((xs.take k).any isNanB || isNanB (xs.getD k default)) := by
  rw [take_next xs k n hn hk, List.any_append]; simp
theorem rev_get (xs : List Nat) (k n : Nat) (hn : xs.length = n) (hk : k < n) : xs.getD (n - 1 - k) default = xs.reverse.getD k default := by
  subst hn
  simp [List.getD, List.getElem?_eq_getElem (show xs.length - 1 - k < xs.length by omega), List.getElem?_reverse hk]

set_option maxHeartbeats 2000000 in
set_option maxRecDepth 100000 in
theorem turned_walk (A : Option Addr) (n c : Nat) (p : Int) (xs : List Nat) (w : World) (h1 : RdU w w.heap.size A n xs) (hok : ∀ x ∈ xs, W64 x) :
    Calls Try.prog 6 #[.slice A n c, .int .u8 p] w fun e w' => e = .returned (.bool true) ∧ Below w.heap.size w w' := by
  have haw := awake33_c
  by_cases hn : 60 < n
  · have hni : (60 : Int) < (n : Int) := by omega
    go_enter Try.func6, Try.ntmps6
    go_wp2_with (go_at_call 23; refine (haw _).mono ?_; rintro e w9 ⟨rfl, hb9⟩)
    go_ret
    exact ⟨rfl, hb9⟩
  · have hls := fun c => list33_c A n c w.heap.size xs w h1 (Nat.le_refl _) (by omega)
    have hsm := fun x w => same_c x x w
    simp only [decide_true] at hsm
    have m1 := fun A c B p w h hB => part_c A n c B p xs w h hB hok (by omega)
    have m2 := fun A c B p w h hB => part_c A n c B p xs.reverse w h hB (fun x hx => hok x (List.mem_reverse.1 hx)) (by omega)
    have m3 := fun A c B w h hB => sum_c A n c B xs w h hB hok (by omega)
    have m4 := fun A c B w h hB => sum_c A n c B xs.reverse w h hB (fun x hx => hok x (List.mem_reverse.1 hx)) (by omega)
    rw [srt_rev xs hok] at m2 m4
    have HX := Lib.hid h1.len
    have HS : Hid (xs.reverse.any isNanB = true → sumB (srtF xs) = 9221120237041090561) := by
      intro h
      obtain ⟨x, hx, hxn⟩ := List.any_eq_true.1 h
      refine sum_nan _ (rawB x) ((ssort_perm ltK _).symm.subset (List.mem_map.2 ⟨x, List.mem_reverse.1 hx, rfl⟩)) ?_
      unfold rawB; rw [hxn]; exact nan_is
    clear h1 hok
    generalize partB (srtF xs) = y1 at *
    generalize sumB (srtF xs) = y3 at *
    go_enter Try.func6, Try.ntmps6
    go_wp2_with fail
    refine (hls _).mono ?_
    rintro e w0 ⟨A0, c0, rfl, hr, hb⟩
    have HR := Lib.hid hr
    have HB := Lib.hid hb
    clear hr hb hls
    go_wp2_with fail
    go_loopw [6, 7, 8] (fun v vb vi wr => ∃ (k : Nat) (A2 : Option Addr) (c2 : Nat) (b : Bool), vi = .int .i64 ((n : Int) - 1 - (k : Int)) ∧ k ≤ n ∧ v = .slice A2 k c2 ∧ vb = .bool b ∧ Hid (b = (xs.reverse.take k).any isNanB) ∧ Hid (wr.ownsRow w0.heap.size 24 1 (.slice A2 k c2) k ((xs.reverse.take k).map f64v)) ∧ Hid (Below w0.heap.size w0 wr)) (fun _ _ vi _ => (intOf vi + 1).toNat)
    case atStart => exact ⟨0, none, 0, false, by go_num, by omega, rfl, rfl, rfl, World.ownsRow_nil _ _ _ _, Below.refl _ _⟩
    case round =>
      obtain ⟨k, A2, c2, b, rfl, hkn, rfl, rfl, HN, HO, HB1⟩ := hrel
      by_cases hlt : k < n
      · have HXr : Hid (xs.reverse.length = n) := by show _ = _; rw [List.length_reverse]; exact HX.out
        obtain ⟨ad, rfl, hc0⟩ := RdF.get (Reads.below HR.out HB1.out) (k := n - 1 - k) (by omega)
        rw [rev_get xs k n HX.out hlt] at hc0
        have HT := Lib.hid (take_next xs.reverse k n HXr.out hlt)
        have HA := Lib.hid (any_next xs.reverse k n HXr.out hlt)
        have hge : (n : Int) - 1 - (k : Int) ≥ 0 := by omega
        have hix : 0 ≤ (n : Int) - 1 - (k : Int) ∧ (n : Int) - 1 - (k : Int) < (n : Int) := by omega
        generalize xs.reverse.getD k default = x at hc0 HT HA
        have hne : (FloatKind.f64.format.order x x != some .eq) = isNanB x := order_ne x
        generalize isNanB x = bx at hne HA
        go_wp2_with (at_builtin; refine app_one slice64 info64 rfl (by decide) (.float .f64 _) rfl HO.out (by omega) HB1.out.size rfl _ _ rfl rfl rfl ?_; intro v1 w1 ho1 hg1)
        have HB2 : Hid (Below w0.heap.size w0 w1) := below_app HB1.out HO.out (Nat.le_refl _) HB1.out.size hg1
        obtain ⟨g, cap, hv, hgb, hgl⟩ := World.ownsRow.form ho1 (by omega)
        subst hv
        have HO1 : Hid (w1.ownsRow w0.heap.size 24 1 (.slice (some ⟨g, 0, none⟩) (k + 1) cap) (k + 1) ((xs.reverse.take (k + 1)).map f64v)) := by
          show World.ownsRow _ _ _ _ _ _ _
          rw [HT.out, List.map_append]; simpa [f64v] using ho1
        have hc1 : w1.cell? (ad.add (n - 1 - k)) = some (.float .f64 x) := by
          have := HB2.out.cell (p := ad.add (n - 1 - k)) (by
            obtain ⟨ad', u, e', hbl, _⟩ := Reads.at_ HR.out (k := n - 1 - k) (by omega)
            injection e' with e'; subst e'
            rw [block_of_add]; exact hbl)
          rw [this]
          have t2 := HB1.out.cell (p := ad.add (n - 1 - k)) (by
            obtain ⟨ad', u, e', hbl, _⟩ := Reads.at_ HR.out (k := n - 1 - k) (by omega)
            injection e' with e'; subst e'
            rw [block_of_add]; exact hbl)
          rw [← t2]; exact hc0
        have hc2 : w1.cell? (ad.add ((n : Int) - 1 - (k : Int)).toNat) = some (.float .f64 x) := by
          rw [show ((n : Int) - 1 - (k : Int)).toNat = n - 1 - k by omega]; exact hc1
        clear ho1 hg1 hc0 HO HB1
        cases b with
        | true =>
          have HA2 : Hid (true = (xs.reverse.take (k + 1)).any isNanB) := by show _ = _; rw [HA.out, ← HN.out]; rfl
          go_wp2_with fail
          go_quiet (fail)
          have HO3 : Hid ((w1.drewN nq).ownsRow w0.heap.size 24 1 (.slice (some ⟨g, 0, none⟩) (k + 1) cap) (k + 1) ((xs.reverse.take (k + 1)).map f64v)) := HO1.out
          have HB3 : Hid (Below w0.heap.size w0 (w1.drewN nq)) := below_drewN HB2.out nq
          clear hc1 hc2 HO1 HB2
          generalize w1.drewN nq = w2 at *
          go_wp2
          go_roundw
          case rel => exact ⟨k + 1, _, _, _, by go_num, by omega, rfl, rfl, HA2, HO3, HB3⟩
          case measure => simp [intOf]; omega
        | false =>
          have HA2 : Hid (bx = (xs.reverse.take (k + 1)).any isNanB) := by show _ = _; rw [HA.out, ← HN.out]; rfl
          go_wp2_with fail
          go_quiet (fail)
          have HO3 : Hid ((w1.drewN nq).ownsRow w0.heap.size 24 1 (.slice (some ⟨g, 0, none⟩) (k + 1) cap) (k + 1) ((xs.reverse.take (k + 1)).map f64v)) := HO1.out
          have HB3 : Hid (Below w0.heap.size w0 (w1.drewN nq)) := below_drewN HB2.out nq
          clear hc1 hc2 HO1 HB2
          generalize w1.drewN nq = w2 at *
          go_wp2
          go_roundw
          case rel => exact ⟨k + 1, _, _, _, by go_num, by omega, rfl, rfl, HA2, HO3, HB3⟩
          case measure => simp [intOf]; omega
      · have hk : k = n := by omega
        subst hk
        have hfull : xs.reverse.take k = xs.reverse := List.take_of_length_le (by rw [List.length_reverse, HX.out]; exact Nat.le_refl _)
        rw [hfull] at HO HN
        have HRR : Hid (RdF wr wr.heap.size A2 k xs.reverse) := Reads.of_own HO.out
        clear hfull HO
        have hneg : ¬ ((k : Int) - 1 - (k : Int) ≥ 0) := by omega
        have e9 : (k : Int) - 1 - (k : Int) = -1 := by omega
        have key : ∀ y3', y3' = y3 → ((FloatKind.f64.format.order y3 y3 != some .eq) = true ∨ b = false) := by
          intro y3' _
          cases hb : b with
          | false => exact .inr rfl
          | true =>
            left
            rw [order_ne, HS.out (by rw [← HN.out, hb])]; exact nan_is
        have HK := Lib.hid (key y3 rfl)
        clear key
        go_wp2_with fail
        refine (m1 A0 _ w0.heap.size _ _ (Reads.below HR.out HB1.out) HB1.out.size).mono ?_
        rintro e w1 ⟨rfl, hb⟩
        have HB2 : Hid (Below w0.heap.size w0 w1) := HB1.out.trans (hb.mono HB1.out.size)
        have HC2 : Hid (Below wr.heap.size wr w1) := hb
        clear hb m1 HB1
        go_wp2_with fail
        refine (m2 A2 _ wr.heap.size _ _ (Reads.below HRR.out HC2.out) HC2.out.size).mono ?_
        rintro e w2 ⟨rfl, hb⟩
        have HB3 : Hid (Below w0.heap.size w0 w2) := HB2.out.trans (hb.mono HB2.out.size)
        have HC3 : Hid (Below wr.heap.size wr w2) := HC2.out.trans (hb.mono HC2.out.size)
        clear hb m2 HB2 HC2
        go_wp2_with fail
        refine (m3 A0 _ w0.heap.size _ (Reads.below HR.out HB3.out) HB3.out.size).mono ?_
        rintro e w3 ⟨rfl, hb⟩
        have HB4 : Hid (Below w0.heap.size w0 w3) := HB3.out.trans (hb.mono HB3.out.size)
        have HC4 : Hid (Below wr.heap.size wr w3) := HC3.out.trans (hb.mono HC3.out.size)
        clear hb m3 HB3 HC3
        go_wp2_with fail
        refine (m4 A2 _ wr.heap.size _ (Reads.below HRR.out HC4.out) HC4.out.size).mono ?_
        rintro e w4 ⟨rfl, hb⟩
        have HB5 : Hid (Below w0.heap.size w0 w4) := HB4.out.trans (hb.mono HB4.out.size)
        clear hb m4 HB4 HC4
        rcases HK.out with ho | rfl
        · clear HK
          go_wp2_with (first | (go_at_call 16; refine (hsm _ _).mono ?_; rintro e w' ⟨rfl, rfl⟩) | (go_at_call 23; refine (haw _).mono ?_; rintro e w9 ⟨rfl, hb9⟩))
          all_goals (go_ret; have b8 : Below w.heap.size w w4 := HB.out.trans (HB5.out.mono HB.out.size); exact ⟨by first | rfl | (cases b <;> rfl), b8.trans (hb9.mono b8.size)⟩)
        · clear HK
          go_wp2_with (first | (go_at_call 16; refine (hsm _ _).mono ?_; rintro e w' ⟨rfl, rfl⟩) | (go_at_call 23; refine (haw _).mono ?_; rintro e w9 ⟨rfl, hb9⟩))
          all_goals (go_ret; have b8 : Below w.heap.size w w4 := HB.out.trans (HB5.out.mono HB.out.size); exact ⟨rfl, b8.trans (hb9.mono b8.size)⟩)
end Go.Proofs.Ytngjfeielpnnnaa
