/-
  WireTextR
-/
import Derived.Test.YtmhkalalcmkpbaaZDotRead2
import Derived.Test.YtmhkalalcmkpbaaZWireText
import Derived.RegionTactic
import Derived.BigRegion
namespace Go.Proofs.Ytmhkalalcmkpbaa
open Go.RowKit
set_option linter.unusedVariables false
set_option linter.unusedSimpArgs false

theorem rdT_ref (s : ByteArray) (e : Int) : rdT (s, e) = if (rdN (s, e)).2.2 ≠ 0 then (⟨#[]⟩, (s, (rdN (s, e)).2.2)) else if 65536 < (rdN (s, e)).1 then (⟨#[]⟩, (s, 3)) else
    if (rdN (s, e)).2.1.size < (rdN (s, e)).1 then (⟨#[]⟩, (s, 4)) else ((rdN (s, e)).2.1.extract 0 (rdN (s, e)).1, ((rdN (s, e)).2.1.extract (rdN (s, e)).1 (rdN (s, e)).2.1.size, 0)) := by
  by_cases he : e = 0
  · subst he
    by_cases hr : (numR s.data.toList).1 = 0
    · have e1 : rdN (s, 0) = ((numR s.data.toList).2.1, (s.extract (numR s.data.toList).2.2 s.size, 0)) := by
        unfold rdN; rw [if_neg (by simp), if_neg (by simpa using hr)]
      have hle := (numR_le s hr).1
      have hz : (s.extract (numR s.data.toList).2.2 s.size).size = s.size - (numR s.data.toList).2.2 := by rw [ByteArray.size_extract]; omega
      rw [e1]
      simp only
      rw [if_neg (by simp), hz]
      by_cases h1 : 65536 < (numR s.data.toList).2.1
      · have e2 : textR s = (⟨#[]⟩, 0, 3) := by unfold textR; rw [if_neg (by simpa using hr), if_pos h1]
        rw [if_pos h1]; unfold rdT; rw [if_neg (by simp)]; simp only [e2]; rfl
      · rw [if_neg h1]
        by_cases h2 : s.size - (numR s.data.toList).2.2 < (numR s.data.toList).2.1
        · have e2 : textR s = (⟨#[]⟩, 0, 4) := by unfold textR; rw [if_neg (by simpa using hr), if_neg h1, if_pos h2]
          rw [if_pos h2]; unfold rdT; rw [if_neg (by simp)]; simp only [e2]; rfl
        · have e2 : textR s = (s.extract (numR s.data.toList).2.2 ((numR s.data.toList).2.2 + (numR s.data.toList).2.1), (numR s.data.toList).2.2 + (numR s.data.toList).2.1, 0) := by
            unfold textR; rw [if_neg (by simpa using hr), if_neg h1, if_neg h2]
          rw [if_neg h2]; unfold rdT; rw [if_neg (by simp)]; simp only [e2]
          rw [if_neg (by simp)]
          refine Prod.ext ?_ (Prod.ext ?_ rfl)
          · refine ba_ext ?_
            show (s.extract _ _).data.toList = ((s.extract _ _).extract _ _).data.toList
            rw [ext_data2, ext_data2, ext_data, List.drop_zero, List.drop_take]
            congr 1; omega
          · refine ba_ext ?_
            show (s.extract _ _).data.toList = ((s.extract _ _).extract _ (s.size - _)).data.toList
            rw [← hz, ext_data, ext_data, ext_data, List.drop_drop]
    · have e1 : rdN (s, 0) = (0, (s, (numR s.data.toList).1)) := by
        unfold rdN; rw [if_neg (by simp), if_pos (by simpa using hr)]
      rw [e1]
      simp only
      rw [if_pos hr]
      have e2 : textR s = (⟨#[]⟩, 0, (numR s.data.toList).1) := by unfold textR; rw [if_pos hr]
      unfold rdT
      rw [if_neg (by simp), e2]
      simp only
      rw [if_pos hr]
  · rw [rdN_err he]
    simp only
    rw [if_pos he]
    unfold rdT; rw [if_pos he]
theorem ret_rt {a a' : ByteArray} {b b' : Int} {t t' : ByteArray} (h : a = a') (h' : b = b') (h'' : t = t') : Ending.returned (.tuple #[.agg #[.string a, .int .i64 b], .string t]) = .returned (.tuple #[.agg #[.string a', .int .i64 b'], .string t']) := by rw [h, h', h'']
theorem res_T (a : Act) (w : World) (g : Nat) (s : ByteArray) (e : Int) (t : ByteArray) (h1 : a.tmps.getD 2 undef = .pointer (some ⟨g, 0, none⟩)) (h2 : a.tmps.getD 3 undef = .string t)
    (c0 : w.cell? ⟨g, 0, none⟩ = some (.string s)) (c1 : w.cell? ⟨g, 1, none⟩ = some (.int .i64 e)) :
    (results Try.f86 a.tmps).run Try.prog w = .ok (.tuple #[.agg #[.string s, .int .i64 e], .string t]) w := by
  rw [results_cell_tmp (p := 2) (u := 3) (ty := 127) rfl, h1, h2]
  go_simp

set_option maxHeartbeats 2000000 in
set_option maxRecDepth 100000 in
theorem rrtext_c (s : ByteArray) (e : Int) (hs : s.size < 9223372036854775807) (w : World) :
    Calls Try.prog 86 #[.agg #[.string s, .int .i64 e]] w fun r w' => r = .returned (.tuple #[.agg #[.string (rdT (s, e)).2.1, .int .i64 (rdT (s, e)).2.2], .string (rdT (s, e)).1]) ∧ Below w.heap.size w w' := by
  have hc := fun W => rrnum_c s e hs W
  have hz1 := rdN_size (s, e)
  have hR := rdT_ref s e
  simp only at hz1
  generalize rdT (s, e) = r at *
  have HR := Lib.hid hR
  clear hR
  generalize rdN (s, e) = q at *
  obtain ⟨n, s1, e1⟩ := q
  simp only at hc hz1 HR
  have HB0 : KB w ((w.alloc (.cells #[.string s, .int .i64 e] 127)).alloc (.cells #[.string ⟨#[]⟩, .int .i64 0] 127)) := (KB.alloc (.mk (Below.refl _ _)) _).alloc _
  have hz2 : (s1.size : Int) ≤ (s.size : Int) ∧ (s.size : Int) < 9223372036854775807 := by omega
  go_enter Try.func86, Try.ntmps86
  go_wp2_with fail
  refine (hc _).mono ?_
  rintro r0 w1 ⟨rfl, hb⟩
  have g0 : w1.cell? ⟨w.heap.size, 0, none⟩ = some (.string s) := keepc hb (by go_simp)
  have g1 : w1.cell? ⟨w.heap.size, 1, none⟩ = some (.int .i64 e) := keepc hb (by go_simp)
  have g2 : w1.cell? ⟨w.heap.size + 1, 0, none⟩ = some (.string ⟨#[]⟩) := keepc hb (by go_simp)
  have g3 : w1.cell? ⟨w.heap.size + 1, 1, none⟩ = some (.int .i64 0) := keepc hb (by go_simp)
  have g4 : w1.frozen? ⟨w.heap.size + 1, 0, none⟩ = false := (hb.frozen (p := ⟨w.heap.size + 1, 0, none⟩) (by simp)).trans (by go_simp)
  have g5 : w1.frozen? ⟨w.heap.size + 1, 1, none⟩ = false := (hb.frozen (p := ⟨w.heap.size + 1, 1, none⟩) (by simp)).trans (by go_simp)
  have HKB := KB.call hb HB0
  have hsz : w.heap.size + 1 < w1.heap.size := by
    have := hb.size
    simp at this; omega
  have hsz2 : w.heap.size < w1.heap.size := by omega
  clear hb HB0 hc
  have hbl : ∀ (X : World), Below w.heap.size w X → ∀ u v, Below w.heap.size w ((X.setCell ⟨w.heap.size + 1, 0, none⟩ u).setCell ⟨w.heap.size + 1, 1, none⟩ v) := fun X h u v => (h.setCell (by simp) _).setCell (by simp) _
  have HBL := Lib.hid hbl
  clear hbl
  by_cases he : e1 = 0
  · subst he
    by_cases h1 : 65536 < n
    · have HE : Hid (r = (⟨#[]⟩, (s, 3))) := by show _ = _; rw [HR.out, if_neg (by simp), if_pos h1]
      have hd : decide ((n : Int) > 65536) = true := decide_eq_true (by omega)
      clear HR
      go_wp2_with fail
      refine bodyPost_ret (res_T _ _ (w.heap.size + 1) s 3 ⟨#[]⟩ rfl rfl ?_ ?_) rfl ?_
      · go_simp
      · go_simp
      · (refine ⟨by rw [HE.out], ?_⟩; repeat (first | exact HKB.out | (refine Below.setCell ?_ (by simp) _) | (refine Below.alloc ?_ (by simp [World.setCell]; omega) _) | (refine below_drewN ?_ _)))
    · have hd : decide ((n : Int) > 65536) = false := decide_eq_false (by omega)
      by_cases h2 : s1.size < n
      · have HE : Hid (r = (⟨#[]⟩, (s, 4))) := by show _ = _; rw [HR.out, if_neg (by simp), if_neg h1, if_pos h2]
        have hd2 : decide ((n : Int) > (s1.size : Int)) = true := decide_eq_true (by omega)
        clear HR
        go_wp2_with fail
        refine bodyPost_ret (res_T _ _ (w.heap.size + 1) s 4 ⟨#[]⟩ rfl rfl ?_ ?_) rfl ?_
        · go_simp
        · go_simp
        · (refine ⟨by rw [HE.out], ?_⟩; repeat (first | exact HKB.out | (refine Below.setCell ?_ (by simp) _) | (refine Below.alloc ?_ (by simp [World.setCell]; omega) _) | (refine below_drewN ?_ _)))
      · have HE : Hid (r = (s1.extract 0 n, (s1.extract n s1.size, 0))) := by show _ = _; rw [HR.out, if_neg (by simp), if_neg h1, if_neg h2]
        have hd2 : decide ((n : Int) > (s1.size : Int)) = false := decide_eq_false (by omega)
        have hb1 : (0 : Int) ≤ (n : Int) ∧ (n : Int) ≤ (s1.size : Int) := by omega
        have hb2 : n ≤ s1.size := by omega
        clear HR
        have HB7 : Hid (Below w.heap.size w (w1.alloc (.cells #[.string s1, .int .i64 0] 127)).drew) := below_drewN (HKB.out.alloc HKB.out.size _) 1
        go_wp2_with fail
        clear g0 g1
        go_region
        all_goals go_wp2
        all_goals refine bodyPost_ret (res_T _ _ (w.heap.size + 1) (s1.extract n s1.size) 0 (s1.extract 0 n) rfl rfl ?_ ?_) rfl ?_
        · go_simp
        · go_simp
        · (refine ⟨by rw [HE.out], ?_⟩; repeat (first | exact HKB.out | exact HB7.out | (refine Below.setCell ?_ (by simp) _) | (refine Below.alloc ?_ (by simp [World.setCell]; omega) _) | (refine below_drewN ?_ 1)))
  · have HE : Hid (r = (⟨#[]⟩, (s, e1))) := by show _ = _; rw [HR.out, if_pos he]
    have heb : (e1 != 0) = true := by simpa using he
    clear HR
    go_wp2_with fail
    refine bodyPost_ret (res_T _ _ (w.heap.size + 1) s e1 ⟨#[]⟩ rfl rfl ?_ ?_) rfl ?_
    · go_simp
    · go_simp
    · (refine ⟨by rw [HE.out], ?_⟩; repeat (first | exact HKB.out | (refine Below.setCell ?_ (by simp) _) | (refine Below.alloc ?_ (by simp [World.setCell]; omega) _) | (refine below_drewN ?_ _)))
end Go.Proofs.Ytmhkalalcmkpbaa
