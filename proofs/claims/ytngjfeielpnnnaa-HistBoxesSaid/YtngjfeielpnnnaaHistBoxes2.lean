/-
  almonrylaw51.HistBoxes answers true: the walk.
-/
import Derived.Test.YtngjfeielpnnnaaHistMost
import Derived.Test.YtngjfeielpnnnaaHistList
namespace Go.Proofs.Ytngjfeielpnnnaa
open Go.RowKit
open FloatPlain
open Stable
set_option linter.unusedVariables false
set_option linter.unusedSimpArgs false
attribute [local go_sem] run_frombits run_bits u64_signed run_store_float

set_option maxHeartbeats 4000000 in
set_option maxRecDepth 100000 in
theorem boxes51_walk (A A2 : Option Addr) (n m c c2 : Nat) (xs ys : List Nat) (w : World) (h1 : RdU w w.heap.size A n xs) (hok : ∀ x ∈ xs, W64 x) (h2 : RdU w w.heap.size A2 m ys) (hok2 : ∀ x ∈ ys, W64 x) :
    Calls Try.prog 9 #[.slice A n c, .slice A2 m c2] w fun e w' => e = .returned (.bool true) ∧ Below w.heap.size w w' := by
  have haw := awake51_c
  by_cases hn : 60 < n
  · have hni : (60 : Int) < (n : Int) := by omega
    go_enter Try.func9, Try.ntmps9
    go_wp2_with (go_at_call 42; refine (haw _).mono ?_; rintro e w9 ⟨rfl, hb9⟩)
    go_ret
    exact ⟨rfl, hb9⟩
  · by_cases hm : 20 < m
    · have hd : decide ((60 : Int) < (n : Int)) = false := decide_eq_false (by omega)
      have hmi : (20 : Int) < (m : Int) := by omega
      go_enter Try.func9, Try.ntmps9
      go_wp2_with (go_at_call 42; refine (haw _).mono ?_; rintro e w9 ⟨rfl, hb9⟩)
      go_ret
      exact ⟨rfl, hb9⟩
    · have hd : decide ((60 : Int) < (n : Int)) = false := decide_eq_false (by omega)
      have hd2 : decide ((20 : Int) < (m : Int)) = false := decide_eq_false (by omega)
      have hl1 := fun c => list51_c A n c w.heap.size xs w h1 (Nat.le_refl _) (by omega)
      have hl2 := fun c w1 (hb : Below w.heap.size w w1) => list51_c A2 m c w.heap.size ys w1 (Reads.below h2 hb) hb.size (by omega)
      have hsr := fun A c B w h hB => rsort_c A m c B ys w h hB hok2 (by omega)
      change ∀ (A : Option Addr) (c B : Nat) (w : World), _ → _ → Calls _ _ _ _ (fun e w' => ∃ A' c', e = _ ∧ RdF w' w'.heap.size A' m (srtF ys) ∧ _) at hsr
      have hbx := fun A A2 c c2 B B2 w h1 hB h2 hB2 => boxes_c A A2 n m c c2 B B2 xs ys w h1 hB h2 hB2 hok hok2 (by omega) (by omega)
      have hms := fun A A2 c c2 B B2 w h1 hB h2 hB2 => most_c A A2 n m c c2 B B2 xs ys w h1 hB h2 hB2 hok hok2 (by omega) (by omega)
      have HXL := Lib.hid h1.len
      have HYL := Lib.hid h2.len
      have HY : Hid ((srtF ys).length = m) := (srtF_length ys).trans h2.len
      have HOK := Lib.hid hok
      have HOK2 : Hid (∀ y ∈ srtF ys, W64 y) := srtF_ok ys hok2
      have HL : Hid ((cntB (keysB ys) xs).length = m + 1) := by show _ = _; rw [cntB_length, keysB_length, h2.len]
      clear h1 h2 hok hok2
      go_enter Try.func9, Try.ntmps9
      go_wp2_with fail
      refine (hl1 _).mono ?_
      rintro e w1 ⟨A3, c3, rfl, hr1, hb1⟩
      have HR1 := Lib.hid hr1
      have HB1 := Lib.hid hb1
      clear hr1 hb1 hl1
      go_wp2_with fail
      refine (hl2 _ _ HB1.out).mono ?_
      rintro e w2 ⟨A4, c4, rfl, hr2, hb2⟩
      have HR2 := Lib.hid hr2
      have HB2 := Lib.hid hb2
      clear hr2 hb2 hl2
      go_wp2_with fail
      refine (hsr _ _ _ _ HR2.out (Nat.le_refl _)).mono ?_
      rintro e w3 ⟨A5, c5, rfl, hr3, hb3⟩
      have HRX : Hid (RdF w3 w3.heap.size A3 n xs) := Reads.more (Reads.below (Reads.below HR1.out HB2.out) (hb3.mono HB2.out.size)) (Nat.le_trans HB2.out.size hb3.size)
      have HRY : Hid (RdF w3 w3.heap.size A4 m ys) := Reads.more (Reads.below HR2.out hb3) hb3.size
      have HRS := Lib.hid hr3
      have HB3 : Hid (Below w.heap.size w w3) := by
        have b2 : Below w.heap.size w w2 := HB1.out.trans (HB2.out.mono HB1.out.size)
        exact b2.trans (hb3.mono b2.size)
      clear hr3 hb3 hsr HR1 HR2 HB1 HB2
      have hmk := make_int (m + 1) ((m : Int) + 1) (by omega) (by omega) w3
      have HST : Hid (∃ v l, v = .slice (some ⟨w3.heap.size, 0, none⟩) (m + 1) (m + 1) ∧ OwnI (w3.alloc (.cells (madeCells #[.int .i64 0] (m + 1)) 3)) w3.heap.size v l ∧ l.length = m + 1 ∧ l = cntB (keysB ys) (xs.take 0)) :=
        ⟨_, _, rfl, own_madeI w3 (m + 1) (by omega), by simp, by unfold cntB; rw [keysB_length, HYL.out]; rfl⟩
      have HB0 : Hid (Below w3.heap.size w3 (w3.alloc (.cells (madeCells #[.int .i64 0] (m + 1)) 3))) := (Below.refl _ _).alloc (Nat.le_refl _) _
      go_wp2_with fail
      generalize w3.alloc (.cells (madeCells #[.int .i64 0] (m + 1)) 3) = wa at HST HB0 ⊢
      clear hmk
      go_loopw [9, 10] (fun vi _ wr => ∃ (j : Nat), vi = .int .i64 j ∧ j ≤ n ∧ Hid (∃ v l, v = .slice (some ⟨w3.heap.size, 0, none⟩) (m + 1) (m + 1) ∧ OwnI wr w3.heap.size v l ∧ l.length = m + 1 ∧ l = cntB (keysB ys) (xs.take j)) ∧ Hid (Below w3.heap.size w3 wr)) (fun vi _ _ => n - (intOf vi).toNat)
      case atStart => exact ⟨0, rfl, by omega, HST, HB0⟩
      case round =>
        clear HST HB0
        obtain ⟨j, rfl, hjn, HST, HB0⟩ := hrel
        obtain ⟨w5, hw5⟩ : ∃ w5, w5 = wr := ⟨_, rfl⟩
        subst hw5
        by_cases hlt : j < n
        · have HW : Hid (W64 (xs.getD j default)) := HOK.out _ (by have := HXL.out; simp [List.getD, show j < xs.length by omega])
          obtain ⟨ax, rfl, hcx⟩ := RdF.get (Reads.below HRX.out HB0.out) hlt
          have HNX : Hid (cntB (keysB ys) (xs.take (j + 1)) = bump (cntB (keysB ys) (xs.take j)) (bs (keysB ys) (keyB (xs.getD j default)))) := cntB_next _ _ _ _ HXL.out hlt
          generalize xs.getD j default = x at hcx HW HNX
          have HVAL : Hid (∀ k, (cntB (keysB ys) (xs.take j)).getD k default < 1000000) := by
            intro k
            have := cntB_le (keysB ys) (xs.take j) k
            rw [List.length_take] at this; omega
          go_wp2_with fail
          go_loopw [10] (fun vk wr2 => ∃ (k : Nat), vk = .int .i64 k ∧ k ≤ m ∧ Hid (∃ q, wr2 = w5.drewN q) ∧ Hid (∀ h, h < k → (keysB ys).getD h default ≤ keyB x)) (fun vk _ => m - (intOf vk).toNat)
          case atStart => exact ⟨0, rfl, by omega, ⟨0, rfl⟩, fun h hh => absurd hh (by omega)⟩
          case round =>
            obtain ⟨k, rfl, hkm, HQ, HK⟩ := hrel
            have hfin : ∀ w6 : World, OwnI w6 w3.heap.size (.slice (some ⟨w3.heap.size, 0, none⟩) (m + 1) (m + 1)) (cntB (keysB ys) (xs.take j)) → Below w3.heap.size w3 w6 → bs (keysB ys) (keyB x) = k →
                ∃ z : Nat, z < 1000000 ∧ w6.cell? ⟨w3.heap.size, k, none⟩ = some (.int .i64 z) ∧ w6.frozen? ⟨w3.heap.size, k, none⟩ = false ∧
                Hid (∃ v l, v = .slice (some ⟨w3.heap.size, 0, none⟩) (m + 1) (m + 1) ∧ OwnI (w6.setCell ⟨w3.heap.size, k, none⟩ (.int .i64 ((z : Int) + 1))) w3.heap.size v l ∧ l.length = m + 1 ∧ l = cntB (keysB ys) (xs.take (j + 1))) ∧
                Hid (Below w3.heap.size w3 (w6.setCell ⟨w3.heap.size, k, none⟩ (.int .i64 ((z : Int) + 1)))) := by
              intro w6 ho hb he
              have hl : (cntB (keysB ys) (xs.take j)).length = m + 1 := by rw [cntB_length, keysB_length, HYL.out]
              have hset := OwnI.set hl ho k ((cntB (keysB ys) (xs.take j)).getD k default + 1)
              have hcast : (((cntB (keysB ys) (xs.take j)).getD k default + 1 : Nat) : Int) = ((cntB (keysB ys) (xs.take j)).getD k default : Int) + 1 := by omega
              rw [hcast] at hset
              refine ⟨_, HVAL.out k, OwnI.cell hl ho (by omega), OwnI.free hl ho k, ⟨_, _, rfl, hset.1, by rw [List.length_set]; exact hl, ?_⟩, hb.setCell (p := ⟨w3.heap.size, k, none⟩) (Nat.le_refl _) _⟩
              rw [HNX.out, he]; rfl
            have HF := Lib.hid hfin
            clear hfin
            obtain ⟨q, rfl⟩ := HQ.out
            obtain ⟨v, l, rfl, ho, hl, hle⟩ := HST.out
            have HO : Hid (∀ q, OwnI (w5.drewN q) w3.heap.size (.slice (some ⟨w3.heap.size, 0, none⟩) (m + 1) (m + 1)) (cntB (keysB ys) (xs.take j))) := fun _ => by rw [← hle]; exact ho
            clear ho hl hle HQ
            by_cases hlt2 : k < m
            · obtain ⟨ay, rfl, hcs⟩ := RdF.get (Reads.below HRS.out HB0.out) hlt2
              have hkk := keysB_get ys k (by rw [HYL.out]; exact hlt2)
              have hle2 := fun nq => rless_c x ((srtF ys).getD k default) HW.out (HOK2.out _ (by have := HY.out; simp [List.getD, show k < (srtF ys).length by omega])) (w5.drewN (q + nq))
              have hdk : decide ((k : Int) < (m : Int)) = true := decide_eq_true (by omega)
              have hcx' : (w5.drewN q).cell? (ax.add j) = some (.float .f64 x) := hcx
              have hcs' : (w5.drewN q).cell? (ay.add k) = some (.float .f64 ((srtF ys).getD k default)) := hcs
              have HD : Hid (keyB x < keyB ((srtF ys).getD k default) → bs (keysB ys) (keyB x) = k) := by
                intro h
                exact bs_eq _ _ _ (by rw [keysB_length, HYL.out]; exact hkm) HK.out (fun _ => by rw [hkk]; exact h)
              have HK2 : Hid (¬ keyB x < keyB ((srtF ys).getD k default) → ∀ h, h < k + 1 → (keysB ys).getD h default ≤ keyB x) := by
                intro h h' hh
                rcases Nat.lt_or_ge h' k with g | g
                · exact HK.out h' g
                · obtain rfl : h' = k := by omega
                  rw [hkk]; omega
              clear hkk HK
              generalize (srtF ys).getD k default = s at *
              by_cases hls : keyB x < keyB s
              · rw [decide_eq_true hls] at hle2
                have HE := Lib.hid (HD.out hls)
                clear hls HD HK2
                go_wp2_with fail
                go_quiet (first | (go_at_call 44; exact quiet_add_left (hle2 _)))
                have ho6 := HO.out (q + nq)
                have hb6 : Below w3.heap.size w3 (w5.drewN (q + nq)) := below_drewN HB0.out _
                clear hcx hcs hcx' hcs' hle2 HO HST HB0
                generalize hw6 : w5.drewN (q + nq) = w6 at *
                obtain ⟨z, hz, hc6, hf6, HS6, HB6⟩ := HF.out w6 ho6 hb6 HE.out
                clear ho6 hb6 HF HE
                go_wp2
                go_roundw
                case rel => exact ⟨j + 1, by go_num, by omega, HS6, HB6⟩
                case measure => simp [intOf]; omega
              · rw [decide_eq_false hls] at hle2
                have HE := Lib.hid (HK2.out hls)
                clear hls HD HK2
                go_wp2_with fail
                go_quiet (first | (go_at_call 44; exact quiet_add_left (hle2 _)))
                clear hcx hcs hcx' hcs' hle2 HO HST HF
                go_wp2
                go_roundw
                case rel => exact ⟨k + 1, by go_num, by omega, ⟨_, rfl⟩, HE⟩
                case measure => simp [intOf]; omega
            · have hkm' : k = m := by omega
              have HE : Hid (bs (keysB ys) (keyB x) = k) := bs_eq _ _ _ (by rw [keysB_length, HYL.out]; exact hkm) HK.out (fun h => absurd h (by rw [keysB_length, HYL.out]; omega))
              have hdk : decide ((k : Int) < (m : Int)) = false := decide_eq_false (by omega)
              have hb1 : (0 : Int) ≤ (k : Int) ∧ (k : Int) < (m : Int) + 1 := by omega
              go_wp2_with fail
              go_quiet (fail)
              clear hkm' hlt2
              have ho6 := HO.out (q + nq)
              have hb6 : Below w3.heap.size w3 (w5.drewN (q + nq)) := below_drewN HB0.out _
              clear hcx HO HST HB0
              generalize hw6 : w5.drewN (q + nq) = w6 at *
              obtain ⟨z, hz, hc6, hf6, HS6, HB6⟩ := HF.out w6 ho6 hb6 HE.out
              clear ho6 hb6 HF HE
              go_wp2
              go_roundw
              case rel => exact ⟨j + 1, by go_num, by omega, HS6, HB6⟩
              case measure => simp [intOf]; omega
        · have hj : j = n := by omega
          subst hj
          have hfull : xs.take j = xs := List.take_of_length_le (by rw [HXL.out]; exact Nat.le_refl _)
          rw [hfull] at HST
          obtain ⟨v, l, rfl, ho, hl, hle⟩ := HST.out
          have HO5 : Hid (RdI w5 w5.heap.size (some ⟨w3.heap.size, 0, none⟩) (m + 1) (cntB (keysB ys) xs)) := by show RdI _ _ _ _ _; rw [← hle]; exact OwnI.rd hl ho
          have hbx2 := hbx A3 A4 c3 c4 w3.heap.size w3.heap.size w5 (Reads.below HRX.out HB0.out) HB0.out.size (Reads.below HRY.out HB0.out) HB0.out.size
          clear hfull HST ho hl hle hbx
          generalize cntB (keysB ys) xs = C at *
          have hne : ((m : Int) + 1 != (m : Int) + 1) = false := by simp
          go_wp2_with fail
          refine hbx2.mono ?_
          rintro e w6 ⟨A6, c6, rfl, hr6, hb6⟩
          have HG6 := Lib.hid hr6
          have HW6 : Hid (RdI w6 w5.heap.size (some ⟨w3.heap.size, 0, none⟩) (m + 1) C) := Reads.below HO5.out hb6
          have HB6 : Hid (Below w3.heap.size w3 w6) := HB0.out.trans (hb6.mono HB0.out.size)
          clear hbx2 hr6 hb6 HO5 HB0
          go_wp2_with fail
          go_loopw [12, 13] (fun va vi wr => ∃ (k a : Nat), vi = .int .i64 k ∧ va = .int .i64 a ∧ k ≤ m + 1 ∧ a < m + 1 ∧ Hid (∃ q, wr = w6.drewN q) ∧ Hid (a = mostF C k)) (fun _ vi _ => m + 1 - (intOf vi).toNat)
          case atStart => exact ⟨0, 0, rfl, rfl, by omega, by omega, ⟨0, rfl⟩, rfl⟩
          case round =>
            obtain ⟨k, a, rfl, rfl, hkm, ham, HQ, HA⟩ := hrel
            obtain ⟨q, rfl⟩ := HQ.out
            by_cases hlt2 : k < m + 1
            · obtain ⟨ag, rfl, hcg⟩ := RdI.get HG6.out hlt2
              obtain ⟨a1, e1, hcw⟩ := RdI.get HW6.out hlt2
              obtain ⟨a2, e2, hca⟩ := RdI.get HW6.out ham
              injection e1 with e1
              injection e2 with e2
              subst e1 e2
              have had : ∀ i : Nat, (⟨w3.heap.size, 0, none⟩ : Addr).add i = ⟨w3.heap.size, i, none⟩ := by
                intro i; unfold Addr.add; split <;> simp_all
              rw [had] at hcw hca
              clear had
              have HM : Hid (mostF C (k + 1) = if C.getD a default < C.getD k default then k else a) := by show _ = _; rw [HA.out]; rfl
              generalize C.getD k default = x at *
              generalize C.getD a default = y at *
              have hcg' : (w6.drewN q).cell? (ag.add k) = some (.int .i64 x) := hcg
              have hcw' : (w6.drewN q).cell? ⟨w3.heap.size, k, none⟩ = some (.int .i64 x) := hcw
              have hca' : (w6.drewN q).cell? ⟨w3.heap.size, a, none⟩ = some (.int .i64 y) := hca
              have hk1 : (0 : Int) ≤ (k : Int) ∧ (k : Int) < (m : Int) + 1 := by omega
              have hk2 : (0 : Int) ≤ (k : Int) ∧ (k : Int) < ((m + 1 : Nat) : Int) := by omega
              have ha2 : (0 : Int) ≤ (a : Int) ∧ (a : Int) < ((m + 1 : Nat) : Int) := by omega
              have hk3 : (k : Int) < ((m + 1 : Nat) : Int) := by omega
              have ha3 : (a : Int) < ((m + 1 : Nat) : Int) := by omega
              have ha1 : (0 : Int) ≤ (a : Int) ∧ (a : Int) < (m : Int) + 1 := by omega
              have hxx : ((x : Int) != (x : Int)) = false := by simp
              clear HA HQ
              by_cases hxy : y < x
              · have hdg : decide ((x : Int) > (y : Int)) = true := decide_eq_true (by omega)
                have HM2 : Hid (k = mostF C (k + 1)) := by show _ = _; rw [HM.out, if_pos hxy]
                clear HM
                go_wp2_with fail
                go_quiet (fail)
                go_wp2_with fail
                go_quiet (fail)
                clear hcg' hcw' hca' hcg hcw hca
                go_wp2
                go_roundw
                case rel => exact ⟨k + 1, k, by go_num, rfl, by omega, by omega, ⟨_, by first | exact rfl | (simp only [World.drewN_drewN]; rfl)⟩, HM2⟩
                case measure => simp [intOf]; omega
              · have hdg : decide ((x : Int) > (y : Int)) = false := decide_eq_false (by omega)
                have HM2 : Hid (a = mostF C (k + 1)) := by show _ = _; rw [HM.out, if_neg hxy]
                clear HM
                go_wp2_with fail
                go_quiet (fail)
                go_wp2_with fail
                go_quiet (fail)
                clear hcg' hcw' hca' hcg hcw hca
                go_wp2
                go_roundw
                case rel => exact ⟨k + 1, a, by go_num, rfl, by omega, by omega, ⟨_, by first | exact rfl | (simp only [World.drewN_drewN]; rfl)⟩, HM2⟩
                case measure => simp [intOf]; omega
            · have hk : k = m + 1 := by omega
              subst hk
              have hms2 := hms A3 A4 c3 c4 w3.heap.size w3.heap.size (w6.drewN q) (Reads.below HRX.out (below_drewN HB6.out q)) HB6.out.size (Reads.below HRY.out (below_drewN HB6.out q)) HB6.out.size
              have HB7 : Hid (Below w3.heap.size w3 (w6.drewN q)) := below_drewN HB6.out q
              have HLT : Hid (a < m + 1) := ham
              rw [← HA.out] at hms2
              clear hms HA HQ HG6 HW6 HB6
              generalize w6.drewN q = w7 at *
              by_cases h0 : j = 0
              · subst h0
                rw [if_pos rfl, show decide (0 < 0) = false by decide] at hms2
                go_wp2_with fail
                refine hms2.mono ?_
                rintro e w8 ⟨rfl, hb8⟩
                have HB8 : Hid (Below w.heap.size w w8) := by
                  have := HB3.out.trans (HB7.out.mono HB3.out.size)
                  exact this.trans (hb8.mono (Nat.le_trans HB3.out.size HB7.out.size))
                clear hb8 hms2 HB7
                go_wp2_with (go_at_call 42; refine (haw _).mono ?_; rintro e w9 ⟨rfl, hb9⟩)
                go_ret
                exact ⟨rfl, HB8.out.trans (hb9.mono HB8.out.size)⟩
              · rw [if_neg h0, show decide (0 < j) = true from decide_eq_true (by omega)] at hms2
                have hdj : decide ((j : Int) > 0) = true := decide_eq_true (by omega)
                have haa : ((a : Int) == (a : Int)) = true := by simp
                go_wp2_with fail
                refine hms2.mono ?_
                rintro e w8 ⟨rfl, hb8⟩
                have HB8 : Hid (Below w.heap.size w w8) := by
                  have := HB3.out.trans (HB7.out.mono HB3.out.size)
                  exact this.trans (hb8.mono (Nat.le_trans HB3.out.size HB7.out.size))
                clear hb8 hms2 HB7
                go_wp2_with (go_at_call 42; refine (haw _).mono ?_; rintro e w9 ⟨rfl, hb9⟩)
                go_ret
                exact ⟨rfl, HB8.out.trans (hb9.mono HB8.out.size)⟩
end Go.Proofs.Ytngjfeielpnnnaa
