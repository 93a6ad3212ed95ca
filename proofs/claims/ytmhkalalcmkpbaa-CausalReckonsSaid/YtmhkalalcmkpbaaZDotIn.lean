/-
  DotIn
-/
import Derived.Test.YtmhkalalcmkpbaaZDotClone
namespace Go.Proofs.Ytmhkalalcmkpbaa
open Go.RowKit
set_option linter.unusedVariables false
set_option linter.unusedSimpArgs false
attribute [local go_sem] eq_dot guard_dot

theorem take_nextD (xs : List (Int × Int)) (k n : Nat) (hn : xs.length = n) (hk : k < n) : xs.take (k + 1) = xs.take k ++ [xs.getD k default] := by
  rw [List.take_succ_eq_append_getElem (by omega)]; simp [List.getD, show k < xs.length by omega]

set_option maxHeartbeats 1000000 in
set_option maxRecDepth 100000 in
theorem in_c (A : Option Addr) (n c B : Nat) (l : List (Int × Int)) (d : Int × Int) (w : World) (h1 : RdD w B A n l) (hB : B ≤ w.heap.size) (hn : n < 1000000) :
    Calls Try.prog 78 #[.slice A n c, dotv d] w fun e w' => e = .returned (.bool (decide (d ∈ l))) ∧ Below w.heap.size w w' := by
  have HX := Lib.hid h1.len
  have HR := Lib.hid (Reads.alloc (Reads.more h1 hB) (Nat.le_refl _) (.cells #[.int .i64 d.1, .int .i64 d.2] 23))
  have HB : Hid (∀ q, Below w.heap.size w ((w.alloc (.cells #[.int .i64 d.1, .int .i64 d.2] 23)).drewN q)) := fun q => below_drewN ((Below.refl _ _).alloc (Nat.le_refl _) _) q
  clear h1 hB
  generalize hr : decide (d ∈ l) = r
  have HD := Lib.hid hr
  clear hr
  obtain ⟨d1, d2⟩ := d
  simp only at HR HB
  have hb1 : (w.alloc (.cells #[.int .i64 d1, .int .i64 d2] 23)).cell? ⟨w.heap.size, 0, none⟩ = some (.int .i64 d1) := by simp
  have hb2 : (w.alloc (.cells #[.int .i64 d1, .int .i64 d2] 23)).cell? ⟨w.heap.size, 1, none⟩ = some (.int .i64 d2) := by simp
  have HB1 := Lib.hid (And.intro hb1 hb2)
  clear hb1 hb2
  go_enter Try.func78, Try.ntmps78
  go_wp2_with fail
  generalize w.alloc (.cells #[.int .i64 d1, .int .i64 d2] 23) = w1 at *
  go_loopw [5] (fun vi wr => ∃ (i : Nat), vi = .int .i64 i ∧ i ≤ n ∧ Hid (∃ q, wr = w1.drewN q) ∧ Hid ((d1, d2) ∉ l.take i)) (fun vi _ => n - (intOf vi).toNat)
  case atStart => exact ⟨0, rfl, by omega, ⟨0, rfl⟩, by show _ ∉ _; simp⟩
  case round =>
    obtain ⟨i, rfl, hin, HQ, HE⟩ := hrel
    by_cases hlt : i < n
    · obtain ⟨q, rfl⟩ := HQ.out
      obtain ⟨b1, o1, rfl, _, hc1, hc2⟩ := RdD.get HR.out hlt
      obtain ⟨hb1, hb2⟩ := HB1.out
      have HT := Lib.hid (take_nextD l i n HX.out hlt)
      have HM : Hid (l.getD i default = (d1, d2) → r = true) := fun e => by
        rw [← HD.out]; refine decide_eq_true ?_
        have hx := HX.out
        rw [← e]; simp [List.getD, show i < l.length by omega]
      clear HQ
      generalize l.getD i default = x at hc1 hc2 HT HM
      obtain ⟨x1, x2⟩ := x
      simp only at hc1 hc2
      by_cases hxy : x1 = d1 ∧ x2 = d2
      · obtain ⟨rfl, rfl⟩ := hxy
        have HR2 := Lib.hid (HM.out rfl)
        clear HM
        go_wp2_with fail
        go_quiet (fail)
        go_wp2
        go_ret
        exact ⟨ret_bool HR2.out.symm, by first | exact HB.out _ | (rw [World.drewN_drewN]; exact HB.out _)⟩
      · have HE2 : Hid ((d1, d2) ∉ l.take (i + 1)) := by
          show _ ∉ _
          rw [HT.out, List.mem_append, not_or]
          refine ⟨HE.out, ?_⟩
          simp only [List.mem_singleton, Prod.mk.injEq]
          rintro ⟨h1, h2⟩; exact hxy ⟨h1.symm, h2.symm⟩
        clear HM HE
        by_cases h1 : x1 = d1
        · have h2 : ¬ x2 = d2 := fun h2 => hxy ⟨h1, h2⟩
          subst h1
          clear hxy
          go_wp2_with fail
          go_quiet (fail)
          clear hc1 hc2 hb1 hb2
          go_wp2
          go_roundw
          case rel => exact ⟨i + 1, by go_num, by omega, ⟨_, rfl⟩, HE2⟩
          case measure => simp [intOf]; omega
        · clear hxy
          go_wp2_with fail
          go_quiet (fail)
          clear hc1 hc2 hb1 hb2
          go_wp2
          go_roundw
          case rel => exact ⟨i + 1, by go_num, by omega, ⟨_, rfl⟩, HE2⟩
          case measure => simp [intOf]; omega
    · have hin' : i = n := by omega
      have HR2 : Hid (r = false) := by
        show _ = _
        rw [← HD.out]
        refine decide_eq_false ?_
        have := HE.out
        rwa [hin', List.take_of_length_le (by rw [HX.out]; exact Nat.le_refl _)] at this
      obtain ⟨q, rfl⟩ := HQ.out
      clear hin' HQ HE
      go_wp2
      go_ret
      exact ⟨ret_bool HR2.out.symm, HB.out q⟩
end Go.Proofs.Ytmhkalalcmkpbaa
