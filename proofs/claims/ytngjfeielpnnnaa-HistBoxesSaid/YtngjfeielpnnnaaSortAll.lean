/-
  slices.stableCmpFunc and slices.SortStableFunc over []float64 with float.Sort's comparison: the row is sorted by keys, stably; fewer than 2^60 elements.
-/
import Derived.Test.YtngjfeielpnnnaaSortSym3
import Derived.Test.YtngjfeielpnnnaaStable3
namespace Go.Proofs.Ytngjfeielpnnnaa
open Go.RowKit
open FloatPlain
open Stable
set_option linter.unusedVariables false
set_option linter.unusedSimpArgs false
attribute [local go_sem] run_frombits run_bits u64_signed run_store_float

/-- How far the first loop is. -/
def Ph1 (w0 : World) (g : Nat) (l0 : List Nat) (a : Nat) (w : World) : Prop := ∃ P : List Nat, P.length = a ∧ SortW w0 g (P ++ l0.drop a) w ∧ P ++ CS ltK 20 (l0.drop a) = CS ltK 20 l0
/-- How far a round of merging is. -/
def Ph2 (w0 : World) (g : Nat) (l0 : List Nat) (s a : Nat) (w : World) : Prop := ∃ P : List Nat, P.length = a ∧ SortW w0 g (P ++ CS ltK s (l0.drop a)) w ∧ P ++ CS ltK (2 * s) (l0.drop a) = CS ltK (2 * s) l0

set_option maxHeartbeats 4000000 in
set_option maxRecDepth 100000 in
theorem stable_c (g cap N : Nat) (l0 : List Nat) (hN : l0.length = N) (w0 w : World) (hS : SortW w0 g l0 w) (hc : N < 1152921504606846976) :
    Calls Try.prog 97 #[.slice (some ⟨g, 0, none⟩) N cap, .int .i64 N, .func (.func 66) #[] #[]] w fun e w' => e = .returned (.tuple #[]) ∧ SortW w0 g (ssort ltK l0) w' := by
  have HNn := Lib.hid hN
  have hP : Hid (Ph1 w0 g l0 0 w) := ⟨[], rfl, by simpa using hS, by simp⟩
  clear hS hN
  go_enter Try.func97, Try.ntmps97
  go_wp2_with fail
  go_loopw [7, 8] (fun va vb wr => ∃ (a : Nat), va = .int .i64 a ∧ vb = .int .i64 ((a : Int) + 20) ∧ a ≤ N ∧ Hid (Ph1 w0 g l0 a wr)) (fun va _ _ => N - (intOf va).toNat)
  case atStart => exact ⟨0, rfl, rfl, by omega, hP⟩
  case round =>
    clear hP
    obtain ⟨a, rfl, rfl, haN, hP⟩ := hrel
    by_cases hlt : a + 20 ≤ N
    · have hlti : (a : Int) + 20 ≤ (N : Int) := by omega
      go_wp2_with fail
      obtain ⟨P, p1, p2, p3⟩ := hP.out
      have hdl : (l0.drop a).length = N - a := by rw [List.length_drop, HNn.out]
      have e0 : l0.drop a = (l0.drop a).take 20 ++ l0.drop (a + 20) := by rw [show l0.drop (a + 20) = (l0.drop a).drop 20 by rw [List.drop_drop]]; exact (List.take_append_drop 20 _).symm
      have ht : ((l0.drop a).take 20).length = 20 := by rw [List.length_take]; omega
      have hspec := insSort_spec ltK P ((l0.drop a).take 20) (l0.drop (a + 20)) a (a + 20) p1.symm (by rw [p1, ht])
      rw [← e0] at hspec
      have hlen : (P ++ l0.drop a).length = N := by rw [List.length_append, hdl]; omega
      have hc1 := ins_c g cap (P ++ l0.drop a) a (a + 20) w0 _ p2 (by omega) (by rw [hlen]; omega) (by rw [hlen]; omega)
      rw [hlen, show ((a + 20 : Nat) : Int) = (a : Int) + 20 by omega] at hc1
      refine hc1.mono ?_
      rintro e w1 ⟨rfl, hs⟩
      rw [hspec] at hs
      have hP2 : Hid (Ph1 w0 g l0 (a + 20) w1) := ⟨P ++ ssort ltK ((l0.drop a).take 20), by rw [List.length_append, ssort_length, ht]; omega, by simpa using hs, by
        rw [← p3]; conv => rhs; rw [e0]
        rw [CS_more ltK 20 (by decide) _ _ ht]; simp⟩
      clear hs hspec hc1 hlen ht e0 hdl p1 p2 p3 hP hlti
      go_wp2
      go_roundw
      case rel => exact ⟨a + 20, by go_num, by go_num, by omega, hP2⟩
      case measure => simp [intOf]; omega
    · have hlti : ¬ (a : Int) + 20 ≤ (N : Int) := by omega
      go_wp2_with fail
      obtain ⟨P, p1, p2, p3⟩ := hP.out
      have hdl : (l0.drop a).length = N - a := by rw [List.length_drop, HNn.out]
      have hspec := insSort_spec ltK P (l0.drop a) [] a N p1.symm (by rw [p1, hdl]; omega)
      rw [List.append_nil, List.append_nil] at hspec
      have hlen : (P ++ l0.drop a).length = N := by rw [List.length_append, hdl]; omega
      have hc1 := ins_c g cap (P ++ l0.drop a) a N w0 _ p2 haN (by rw [hlen]; omega) (by rw [hlen]; omega)
      rw [hlen] at hc1
      refine hc1.mono ?_
      rintro e w1 ⟨rfl, hs⟩
      have hfull : Hid (SortW w0 g (CS ltK 20 l0) w1) := by
        show SortW _ _ _ _
        rw [hspec] at hs
        rw [← p3, CS_last ltK 20 (l0.drop a) (by omega)]; exact hs
      clear hs hspec hc1 hlen hdl p1 p2 p3 hP hlti hlt
      go_wp2_with fail
      go_loopw [6, 7, 8] (fun vs va vb wr => ∃ (s : Nat), vs = .int .i64 s ∧ 20 ≤ s ∧ s ≤ 2 * N + 20 ∧ Hid (SortW w0 g (CS ltK s l0) wr)) (fun vs _ _ _ => N - (intOf vs).toNat)
      case atStart => exact ⟨20, rfl, Nat.le_refl _, by omega, hfull⟩
      case round =>
        clear hfull
        obtain ⟨s, rfl, hs20, hsN, hfull⟩ := hrel
        by_cases hsn : s < N
        · have hP : Hid (Ph2 w0 g l0 s 0 wr) := ⟨[], rfl, by simpa using hfull.out, by simp⟩
          clear hfull
          go_wp2_with fail
          go_loopw [7, 8] (fun va vb wr => ∃ (a : Nat), va = .int .i64 a ∧ vb = .int .i64 ((a : Int) + 2 * (s : Int)) ∧ a ≤ N ∧ Hid (Ph2 w0 g l0 s a wr)) (fun va _ _ => N - (intOf va).toNat)
          case atStart => exact ⟨0, rfl, by go_num, by omega, hP⟩
          case round =>
            clear hP
            obtain ⟨a, rfl, rfl, haN, hP⟩ := hrel
            by_cases hlt : a + 2 * s ≤ N
            · have hlti : (a : Int) + 2 * (s : Int) ≤ (N : Int) := by omega
              go_wp2_with fail
              obtain ⟨P, p1, p2, p3⟩ := hP.out
              have hdl : (l0.drop a).length = N - a := by rw [List.length_drop, HNn.out]
              obtain ⟨X, Y, R, e0, hX, hY, e1⟩ : ∃ X Y R, l0.drop a = X ++ (Y ++ R) ∧ X.length = s ∧ Y.length = s ∧ R = l0.drop (a + 2 * s) := by
                refine ⟨(l0.drop a).take s, ((l0.drop a).drop s).take s, ((l0.drop a).drop s).drop s, ?_, ?_, ?_, ?_⟩
                · rw [List.take_append_drop, List.take_append_drop]
                · rw [List.length_take]; omega
                · rw [List.length_take, List.length_drop]; omega
                · rw [List.drop_drop, List.drop_drop]; congr 1; omega
              obtain ⟨t1, t2⟩ := CS_two ltK swoK s (by omega) X Y R hX hY
              rw [← e0] at t1 t2
              rw [t1] at p2
              rw [t2] at p3
              have hlen : (P ++ (ssort ltK X ++ (ssort ltK Y ++ CS ltK s R))).length = N := by
                have : (l0.drop a).length = s + (s + R.length) := by rw [e0]; simp; omega
                simp only [List.length_append, ssort_length, CS_length ltK s (by omega) _ R rfl]; omega
              have hc1 := sym_c cap N (by omega) (2 * s) g P (ssort ltK X) (ssort ltK Y) (CS ltK s R) a (a + s) (a + 2 * s) (by rw [ssort_length, ssort_length]; omega) hlen p1 (by rw [ssort_length]; omega) (by rw [ssort_length]; omega) (by rw [ssort_length]; omega) (by rw [ssort_length]; omega) (ssort_srt swoK X) (ssort_srt swoK Y) w0 _ p2
              rw [show ((a + s : Nat) : Int) = (a : Int) + (s : Int) by omega, show ((a + 2 * s : Nat) : Int) = (a : Int) + 2 * (s : Int) by omega] at hc1
              refine hc1.mono ?_
              rintro e w2 ⟨rfl, hs⟩
              have hP2 : Hid (Ph2 w0 g l0 s (a + 2 * s) w2) := ⟨P ++ mrg ltK (ssort ltK X) (ssort ltK Y), by rw [List.length_append, mrg_length ltK (2 * s) _ _ (by rw [ssort_length, ssort_length]; omega)]; omega, by rw [← e1]; simpa using hs, by rw [← e1, ← p3]; simp⟩
              clear hs hc1 hlen t1 t2 e0 e1 hX hY hdl p1 p2 p3 hP hlti
              go_wp2
              go_roundw
              case rel => exact ⟨a + 2 * s, by go_num, by go_num, by omega, hP2⟩
              case measure => simp [intOf]; omega
            · have hlti : ¬ (a : Int) + 2 * (s : Int) ≤ (N : Int) := by omega
              by_cases hm : a + s < N
              · have hmi : (a : Int) + (s : Int) < (N : Int) := by omega
                go_wp2_with fail
                obtain ⟨P, p1, p2, p3⟩ := hP.out
                have hdl : (l0.drop a).length = N - a := by rw [List.length_drop, HNn.out]
                obtain ⟨X, Y, e0, hX, hY⟩ : ∃ X Y, l0.drop a = X ++ Y ∧ X.length = s ∧ Y.length = N - a - s := by
                  refine ⟨(l0.drop a).take s, (l0.drop a).drop s, (List.take_append_drop _ _).symm, ?_, ?_⟩
                  · rw [List.length_take]; omega
                  · rw [List.length_drop]; omega
                obtain ⟨t1, t2⟩ := CS_rest ltK swoK s (by omega) X Y hX (by omega)
                rw [← e0] at t1 t2
                rw [t1] at p2
                rw [t2] at p3
                have hlen : (P ++ (ssort ltK X ++ (ssort ltK Y ++ []))).length = N := by simp only [List.length_append, ssort_length, List.length_nil]; omega
                have hc1 := sym_c cap N (by omega) (2 * s) g P (ssort ltK X) (ssort ltK Y) [] a (a + s) N (by rw [ssort_length, ssort_length]; omega) hlen p1 (by rw [ssort_length]; omega) (by rw [ssort_length]; omega) (by rw [ssort_length]; omega) (by rw [ssort_length]; omega) (ssort_srt swoK X) (ssort_srt swoK Y) w0 _ (by simpa using p2)
                rw [show ((a + s : Nat) : Int) = (a : Int) + (s : Int) by omega] at hc1
                refine hc1.mono ?_
                rintro e w2 ⟨rfl, hs⟩
                have hf2 : Hid (SortW w0 g (CS ltK (2 * s) l0) w2) := by show SortW _ _ _ _; rw [← p3]; simpa using hs
                clear hs hc1 hlen t1 t2 e0 hX hY hdl p1 p2 p3 hP hlti hmi
                go_wp2
                go_roundw
                case rel => exact ⟨2 * s, by go_num, by omega, by omega, hf2⟩
                case measure => simp [intOf]; omega
              · have hmi : ¬ (a : Int) + (s : Int) < (N : Int) := by omega
                obtain ⟨P, p1, p2, p3⟩ := hP.out
                have hdl : (l0.drop a).length = N - a := by rw [List.length_drop, HNn.out]
                have hf2 : Hid (SortW w0 g (CS ltK (2 * s) l0) wr) := by
                  show SortW _ _ _ _
                  rw [← p3, CS_last ltK (2 * s) _ (by omega)]
                  rw [CS_last ltK s _ (by omega)] at p2
                  exact p2
                clear hdl p1 p2 p3 hP
                go_wp2
                go_roundw
                case rel => exact ⟨2 * s, by go_num, by omega, by omega, hf2⟩
                case measure => simp [intOf]; omega
        · have hend := CS_last ltK s l0 (by rw [HNn.out]; omega)
          rw [hend] at hfull
          clear hend
          go_wp2
          go_end0
          exact ⟨rfl, hfull.out⟩

theorem sortstable_c (g cap N : Nat) (l0 : List Nat) (hN : l0.length = N) (w0 w : World) (hS : SortW w0 g l0 w) (hc : N < 1152921504606846976) :
    Calls Try.prog 65 #[.slice (some ⟨g, 0, none⟩) N cap, .func (.func 66) #[] #[]] w fun e w' => e = .returned (.tuple #[]) ∧ SortW w0 g (ssort ltK l0) w' := by
  have H := fun cap => stable_c g cap N l0 hN w0 w hS hc
  clear hN hS
  go_enter Try.func65, Try.ntmps65
  go_wp2_with fail
  refine (H _).mono ?_
  rintro e w1 ⟨rfl, hs⟩
  have HH := Lib.hid hs
  clear hs H
  go_wp2
  go_end0
  exact ⟨rfl, HH.out⟩
end Go.Proofs.Ytngjfeielpnnnaa
