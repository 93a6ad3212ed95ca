/-
  slices.swapRangeCmpFunc and slices.rotateCmpFunc over []float64 exchange two stretches; no condition but the row's bounds.
-/
import Derived.Test.YtngjfeielpnnnaaSortIns
namespace Go.Proofs.Ytngjfeielpnnnaa
open Go.RowKit
open FloatPlain
open Stable
set_option linter.unusedVariables false
set_option linter.unusedSimpArgs false
attribute [local go_sem] run_frombits run_bits u64_signed run_store_float

set_option maxHeartbeats 1000000 in
set_option maxRecDepth 100000 in
theorem swr_c (g cap : Nat) (l0 : List Nat) (N a b n : Nat) (hN : l0.length = N) (cv : Value) (w0 w : World) (hS : SortW w0 g l0 w) (ha : a + n ≤ N) (hb : b + n ≤ N) (hc : N < 4611686018427387904) :
    Calls Try.prog 138 #[.slice (some ⟨g, 0, none⟩) N cap, .int .i64 a, .int .i64 b, .int .i64 n, cv] w fun e w' => e = .returned (.tuple #[]) ∧ SortW w0 g (swpN l0 a b n) w' := by
  have HS := Lib.hid hS
  have HNn := Lib.hid hN
  clear hS hN
  go_enter Try.func138, Try.ntmps138
  go_wp2_with fail
  go_loopw [10] (fun vi wr => ∃ (i : Nat), vi = .int .i64 i ∧ i ≤ n ∧ Hid (SortW w0 g (swpN l0 a b i) wr)) (fun vi _ => n - (intOf vi).toNat)
  case atStart => exact ⟨0, rfl, by omega, HS⟩
  case round =>
    clear HS
    obtain ⟨i, rfl, hin, HR⟩ := hrel
    have hlen : (swpN l0 a b i).length = N := by rw [swpN_length]; exact HNn.out
    have HE : Hid (swpN l0 a b (i + 1) = swp (swpN l0 a b i) (a + i) (b + i)) := rfl
    generalize hm : swpN l0 a b i = m at HR hlen HE
    have HM := Lib.hid hm
    clear hm
    by_cases hlt : i < n
    · go_wp2_with fail
      have c1 := HR.out.1.cell (a + i) (by omega)
      have c2 := HR.out.1.cell (b + i) (by omega)
      have f1 := HR.out.1.free (a + i) (by omega)
      have f2 := HR.out.1.free (b + i) (by omega)
      have HS3 := Lib.hid (HR.out.swapped (a + i) (b + i) (by omega) (by omega))
      generalize m.getD (a + i) default = x at c1 HS3
      generalize m.getD (b + i) default = y at c2 HS3
      obtain ⟨u, c3⟩ := HR.out.cell2 (a + i) (b + i) (by omega) (by omega) (.float .f64 y)
      clear HR
      have e1 : ((a : Int) + i).toNat = a + i := by omega
      have e2 : ((b : Int) + i).toNat = b + i := by omega
      have e3 : IntKind.i64.wrap ((a : Int) + i) = (a : Int) + i := by rw [IntKind.wrap_i64]; omega
      have e4 : IntKind.i64.wrap ((b : Int) + i) = (b : Int) + i := by rw [IntKind.wrap_i64]; omega
      have e5 : (0 : Int) ≤ (a : Int) + i := by omega
      have e6 : (0 : Int) ≤ (b : Int) + i := by omega
      have e7 : (a : Int) + i < (N : Int) := by omega
      have e8 : (b : Int) + i < (N : Int) := by omega
      clear hlen
      go_big_region
      clear c1 c2 c3 f1 f2
      generalize ((wr.setCell ⟨g, a + i, none⟩ (.float .f64 y)).setCell ⟨g, b + i, none⟩ (.float .f64 x)).drew = w3 at HS3 ⊢
      go_wp2
      go_roundw
      case rel => exact ⟨i + 1, by go_num, by omega, by rw [HE.out]; exact HS3⟩
      case measure => simp [intOf]; omega
    · go_wp2
      go_end0
      have : i = n := by omega
      subst this
      exact ⟨rfl, by rw [HM.out]; exact HR.out⟩

set_option maxHeartbeats 1000000 in
set_option maxRecDepth 100000 in
theorem rot_c (g cap : Nat) (P U V Q : List Nat) (N a m b : Nat) (hN : (P ++ (U ++ (V ++ Q))).length = N) (ha : P.length = a) (hm : a + U.length = m) (hb : m + V.length = b) (hU : 0 < U.length) (hV : 0 < V.length)
    (cv : Value) (w0 w : World) (hS : SortW w0 g (P ++ (U ++ (V ++ Q))) w) (hc : N < 4611686018427387904) :
    Calls Try.prog 131 #[.slice (some ⟨g, 0, none⟩) N cap, .int .i64 a, .int .i64 m, .int .i64 b, cv] w fun e w' => e = .returned (.tuple #[]) ∧ SortW w0 g (P ++ (V ++ (U ++ Q))) w' := by
  have hbN : b ≤ N := by simp at hN; omega
  have ham : a < m := by omega
  have hmb : m < b := by omega
  have hst : ∃ (L U' V' R : List Nat), U'.length = m - a ∧ V'.length = b - m ∧ L.length + (m - a) = m ∧ (L ++ (U' ++ (V' ++ R))).length = N ∧ Hid (SortW w0 g (L ++ (U' ++ (V' ++ R))) w) ∧ Hid (L ++ (V' ++ (U' ++ R)) = P ++ (V ++ (U ++ Q))) :=
    ⟨P, U, V, Q, by omega, by omega, by omega, hN, hS, rfl⟩
  have HT := Lib.hid hst
  generalize P ++ (V ++ (U ++ Q)) = T at HT ⊢
  clear hst hS hN ha hm hb hU hV
  clear P U V Q
  have hlt1 : (a : Int) ≤ (m : Int) := by omega
  go_enter Try.func131, Try.ntmps131
  go_wp2_with fail
  go_loopw [10, 11] (fun vi vj wr => ∃ (i j : Nat), vi = .int .i64 i ∧ vj = .int .i64 j ∧ 0 < i ∧ 0 < j ∧ i ≤ m ∧ m + j ≤ N ∧ Hid (∃ (L U' V' R : List Nat), U'.length = i ∧ V'.length = j ∧ L.length + i = m ∧ (L ++ (U' ++ (V' ++ R))).length = N ∧ Hid (SortW w0 g (L ++ (U' ++ (V' ++ R))) wr) ∧ Hid (L ++ (V' ++ (U' ++ R)) = T))) (fun vi vj _ => (intOf vi).toNat + (intOf vj).toNat)
  case atStart => exact ⟨m - a, b - m, by go_num, by go_num, by omega, by omega, by omega, by omega, HT.out⟩
  case round =>
    clear HT
    obtain ⟨i, j, rfl, rfl, hi, hj, him, hjN, HT⟩ := hrel
    by_cases hij : i = j
    · subst hij
      have hne : ((i : Int) != (i : Int)) = false := by simp
      go_wp2_with fail
      obtain ⟨L, U', V', R, h1, h2, h3, h4, h5, h6⟩ := HT.out
      have em : (m : Int) - (i : Int) = ((m - i : Nat) : Int) := by omega
      rw [em]
      refine (swr_c g cap _ N (m - i) m i h4 cv w0 _ h5.out (by omega) (by omega) hc).mono ?_
      rintro e w' ⟨rfl, hs⟩
      have hspec := swpN_spec L [] i U' V' R [] h1 h2
      have e1 : L ++ (U' ++ ([] ++ ([] ++ (V' ++ R)))) = L ++ (U' ++ (V' ++ R)) := by simp
      have e2 : L ++ (V' ++ ([] ++ ([] ++ (U' ++ R)))) = L ++ (V' ++ (U' ++ R)) := by simp
      rw [e1, e2, show L.length = m - i by omega, show m - i + i + ([] : List Nat).length + ([] : List Nat).length = m by simp; omega] at hspec
      rw [hspec, h6.out] at hs
      have HF := Lib.hid hs
      clear hs hspec e1 e2 em h1 h2 h3 h4 h5 h6 HT
      go_wp2
      go_end0
      exact ⟨rfl, HF.out⟩
    · have hne : ((i : Int) != (j : Int)) = true := by rw [bne_iff_ne]; omega
      by_cases hgt : j < i
      · go_wp2_with fail
        obtain ⟨L, U', V', R, h1, h2, h3, h4, h5, h6⟩ := HT.out
        have em : (m : Int) - (i : Int) = ((m - i : Nat) : Int) := by omega
        rw [em]
        refine (swr_c g cap _ N (m - i) m j h4 cv w0 _ h5.out (by omega) (by omega) hc).mono ?_
        rintro e w' ⟨rfl, hs⟩
        have hsplit : U' = U'.take j ++ U'.drop j := (List.take_append_drop j U').symm
        have hl1 : (U'.take j).length = j := by rw [List.length_take]; omega
        have hl2 : (U'.drop j).length = i - j := by rw [List.length_drop]; omega
        have hspec := swpN_spec L [] j (U'.take j) V' R (U'.drop j) hl1 h2
        have e1 : L ++ (U'.take j ++ (U'.drop j ++ ([] ++ (V' ++ R)))) = L ++ (U' ++ (V' ++ R)) := by rw [List.nil_append, ← List.append_assoc (U'.take j), List.take_append_drop]
        rw [e1, show L.length = m - i by omega, show m - i + j + (U'.drop j).length + ([] : List Nat).length = m by rw [hl2]; simp; omega] at hspec
        rw [hspec] at hs
        have HX : Hid (∃ (L2 U2 V2 R2 : List Nat), U2.length = i - j ∧ V2.length = j ∧ L2.length + (i - j) = m ∧ (L2 ++ (U2 ++ (V2 ++ R2))).length = N ∧ Hid (SortW w0 g (L2 ++ (U2 ++ (V2 ++ R2))) w') ∧ Hid (L2 ++ (V2 ++ (U2 ++ R2)) = T)) := by
          refine ⟨L ++ V', U'.drop j, U'.take j, R, hl2, hl1, by simp; omega, ?_, ?_, ?_⟩
          · simp at h4 ⊢; omega
          · have e3 : L ++ (V' ++ (U'.drop j ++ ([] ++ (U'.take j ++ R)))) = (L ++ V') ++ (U'.drop j ++ (U'.take j ++ R)) := by simp
            rw [e3] at hs; exact hs
          · have := h6.out
            show _ = _
            rw [← this, ← List.append_assoc (U'.take j), List.take_append_drop, List.append_assoc]
        clear hs hspec e1 em h1 h2 h3 h4 h5 h6 HT hsplit hl1 hl2
        go_wp2
        go_roundw
        case rel => exact ⟨i - j, j, by go_num, rfl, by omega, hj, by omega, hjN, HX⟩
        case measure => simp [intOf]; omega
      · go_wp2_with fail
        obtain ⟨L, U', V', R, h1, h2, h3, h4, h5, h6⟩ := HT.out
        have em : (m : Int) - (i : Int) = ((m - i : Nat) : Int) := by omega
        have em2 : (m : Int) + (j : Int) - (i : Int) = ((m + j - i : Nat) : Int) := by omega
        rw [em, em2]
        refine (swr_c g cap _ N (m - i) (m + j - i) i h4 cv w0 _ h5.out (by omega) (by omega) hc).mono ?_
        rintro e w' ⟨rfl, hs⟩
        have hsplit : V' = V'.take (j - i) ++ V'.drop (j - i) := (List.take_append_drop _ V').symm
        have hl1 : (V'.take (j - i)).length = j - i := by rw [List.length_take]; omega
        have hl2 : (V'.drop (j - i)).length = i := by rw [List.length_drop]; omega
        have hspec := swpN_spec L (V'.take (j - i)) i U' (V'.drop (j - i)) R [] h1 hl2
        have e1 : L ++ (U' ++ ([] ++ (V'.take (j - i) ++ (V'.drop (j - i) ++ R)))) = L ++ (U' ++ (V' ++ R)) := by rw [List.nil_append, ← List.append_assoc (V'.take (j - i)), List.take_append_drop]
        rw [e1, show L.length = m - i by omega, show m - i + i + ([] : List Nat).length + (V'.take (j - i)).length = m + j - i by rw [hl1]; simp; omega] at hspec
        rw [hspec] at hs
        have HX : Hid (∃ (L2 U2 V2 R2 : List Nat), U2.length = i ∧ V2.length = j - i ∧ L2.length + i = m ∧ (L2 ++ (U2 ++ (V2 ++ R2))).length = N ∧ Hid (SortW w0 g (L2 ++ (U2 ++ (V2 ++ R2))) w') ∧ Hid (L2 ++ (V2 ++ (U2 ++ R2)) = T)) := by
          refine ⟨L, V'.drop (j - i), V'.take (j - i), U' ++ R, hl2, hl1, by omega, ?_, ?_, ?_⟩
          · simp at h4 ⊢; omega
          · have e3 : L ++ (V'.drop (j - i) ++ ([] ++ (V'.take (j - i) ++ (U' ++ R)))) = L ++ (V'.drop (j - i) ++ (V'.take (j - i) ++ (U' ++ R))) := by simp
            rw [e3] at hs; exact hs
          · have := h6.out
            show _ = _
            rw [← this, ← List.append_assoc (V'.take (j - i)), List.take_append_drop]
        clear hs hspec e1 em em2 h1 h2 h3 h4 h5 h6 HT hsplit hl1 hl2
        go_wp2
        go_roundw
        case rel => exact ⟨i, j - i, rfl, by go_num, hi, by omega, him, by omega, HX⟩
        case measure => simp [intOf]; omega
end Go.Proofs.Ytngjfeielpnnnaa
