/-
  almonrylaw51.list: the numbers of any bits.
-/
import Derived.Test.YtngjfeielpnnnaaFloatSorts
namespace Go.Proofs.Ytngjfeielpnnnaa
open Go.RowKit
open FloatPlain
open Stable
set_option linter.unusedVariables false
set_option linter.unusedSimpArgs false
attribute [local go_sem] run_frombits run_bits u64_signed run_store_float

set_option maxHeartbeats 1000000 in
set_option maxRecDepth 100000 in
theorem list51_c (A : Option Addr) (n c B : Nat) (xs : List Nat) (w : World) (h1 : RdU w B A n xs) (hB : B ≤ w.heap.size) (hn : n < 1000000) :
    Calls Try.prog 43 #[.slice A n c] w fun e w' => ∃ A' c', e = .returned (.slice A' n c') ∧ RdF w' w'.heap.size A' n xs ∧ Below w.heap.size w w' := by
  have HX := Lib.hid h1.len
  have H1 := Lib.hid (Reads.more h1 hB)
  clear h1 hB
  go_enter Try.func43, Try.ntmps43
  go_wp2_with fail
  go_loopw [3, 4] (fun v vi wr => ∃ (k : Nat) (A2 : Option Addr) (c2 : Nat), vi = .int .i64 k ∧ k ≤ n ∧ v = .slice A2 k c2 ∧ Hid (wr.ownsRow w.heap.size 24 1 (.slice A2 k c2) k ((xs.take k).map f64v)) ∧ Hid (Below w.heap.size w wr)) (fun _ vi _ => n - (intOf vi).toNat)
  case atStart => exact ⟨0, none, 0, rfl, by omega, rfl, World.ownsRow_nil _ _ _ _, Below.refl _ _⟩
  case round =>
    obtain ⟨k, A2, c2, rfl, hkn, rfl, HO, HB⟩ := hrel
    by_cases hlt : k < n
    · obtain ⟨ad, rfl, hc0⟩ := RdU.get (Reads.below H1.out HB.out) hlt
      have HT := Lib.hid (take_next xs k n HX.out hlt)
      generalize xs.getD k default = x at hc0 HT
      go_wp2_with (at_builtin; refine app_one slice64 info64 rfl (by decide) (.float .f64 _) rfl HO.out (by omega) HB.out.size rfl _ _ rfl rfl rfl ?_; intro v1 w1 ho1 hg1)
      have HB1 : Hid (Below w.heap.size w w1) := below_app HB.out HO.out (Nat.le_refl _) HB.out.size hg1
      obtain ⟨g, cap, hv, hgb, hgl⟩ := World.ownsRow.form ho1 (by omega)
      subst hv
      have HO1 : Hid (w1.ownsRow w.heap.size 24 1 (.slice (some ⟨g, 0, none⟩) (k + 1) cap) (k + 1) ((xs.take (k + 1)).map f64v)) := by
        show World.ownsRow _ _ _ _ _ _ _
        rw [HT.out, List.map_append]; simpa [f64v] using ho1
      clear ho1 hg1 hc0 HO HB
      go_roundw
      case rel => exact ⟨k + 1, _, _, by go_num, by omega, rfl, HO1, HB1⟩
      case measure => simp [intOf]; omega
    · have hk : k = n := by omega
      subst hk
      have hfull : xs.take k = xs := List.take_of_length_le (by rw [HX.out]; exact Nat.le_refl _)
      rw [hfull] at HO
      clear hfull
      go_wp2
      go_ret
      exact ⟨_, _, rfl, Reads.of_own HO.out, HB.out⟩
end Go.Proofs.Ytngjfeielpnnnaa
