/-
  wire.Num and the reference's Num (almonryref01): a number's bytes.
-/
import Derived.Test.YtkmmphcmkmacpaaWirePlain
import Derived.Test.YtkmmphcmkmacpaaMem2
import Derived.WalkLawsBesides
import Derived.Laws.Cover2
import Derived.Lib.Hide
import Derived.Deep.Cut
import Derived.Handy
import Derived.Outline
import Derived.Below
import Derived.Laws.AppendOwn
import Derived.Deep.LoopGhost
import Derived.WalkMore
import Derived.ScopeJumps
namespace Go.Proofs.Ytkmmphcmkmacpaa
open Go.RowKit
set_option linter.unusedVariables false
set_option linter.unusedSimpArgs false

theorem info8 : (Try.prog.info? 5).map (fun i => (i.zero, i.size, i.bytes)) = some (some (.int .u8 0), 1, 1) := by kernel_rfl
theorem slice8 : Try.prog.underlying 172 = some (.slice 5) := by kernel_rfl
theorem conv_own (w : World) (base : Nat) (v : Value) (n : Nat) (xs : List Int) (hn : xs.length = n) (h0 : 0 < n) (hown : w.ownsRow base 5 1 v n (xs.map (Value.int .u8))) :
    (convert 172 9 v).run Try.prog w = .ok (.string (strOfNums xs)) w := by
  obtain ⟨g, cap, rfl, _, _⟩ := hown.form h0
  refine run_convert_bytes_arg (P := Try.prog) w 172 5 slice8 (by kernel_rfl) g 0 n cap xs hn ?_ 9 (by kernel_rfl)
  intro i hi
  rw [Nat.zero_add, World.ownsRow.cellAt hown i (by omega)]
  simp [List.getD, show i < xs.length by omega]
theorem ret_si {a b : ByteArray} {k : IntKind} {c d : Int} (h : a = b) (h' : c = d) : Ending.returned (.tuple #[.string a, .int k c]) = .returned (.tuple #[.string b, .int k d]) := by rw [h, h']

/-- What Num answers. -/
def numS (n : Int) : ByteArray := if n < 0 ∨ 9007199254740992 < n then ⟨#[]⟩ else strOfNums (putN n.toNat)
def numE (n : Int) : Int := if n < 0 ∨ 9007199254740992 < n then 2 else 0

set_option maxHeartbeats 1000000 in
set_option maxRecDepth 100000 in
theorem num_ok (n : Nat) (hn : (n : Int) ≤ 9007199254740992) (w : World) : Calls Try.prog 68 #[.int .i64 n] w fun e w' => e = .returned (.tuple #[.string (strOfNums (putN n)), .int .i64 0]) ∧ Below w.heap.size w w' := by
  have hd : decide ((n : Int) < 0) = false := decide_eq_false (by omega)
  have hd2 : decide ((n : Int) > 9007199254740992) = false := decide_eq_false (by omega)
  go_enter Try.func68, Try.ntmps68
  go_wp2
  have HO : Hid (w.ownsRow w.heap.size 5 1 (.slice none 0 0) 0 (([] : List Int).map (Value.int .u8))) := World.ownsRow_nil _ _ _ _
  have HB : Hid (Below w.heap.size w w) := Below.refl _ _
  have hlast : ∀ (m k : Nat) (bs : List Int) (w1 : World) (v1 : Value), m < 128 → bs.length = k → k < 100 → bs ++ putN m = putN n → w1.ownsRow w.heap.size 5 1 v1 (k + 1) (bs.map (Value.int .u8) ++ [.int .u8 (m : Int)]) → (convert 172 9 v1).run Try.prog w1 = .ok (.string (strOfNums (putN n))) w1 := by
    intro m k bs w1 v1 hm hb hk he ho
    refine conv_own w1 w.heap.size v1 (k + 1) (putN n) ?_ (by omega) ?_
    · rw [← he, putN_small hm]; simp [hb]
    · rw [← he, putN_small hm, List.map_append]; exact ho
  have HLAST := Lib.hid hlast
  clear hlast
  refine wp_scope_jumps 0 (fun a' w' => ∃ (m k : Nat) (bs : List Int) (v u1 u5 u6 u7 u8 u9 u10 u11 u12 u13 u14 u15 u16 u17 u18 u19 u20 u21 u22 u23 u24 u25 u26 : Value), a' = { tmps := #[.int .i64 m, u1, .string ⟨#[]⟩, .int .i64 0, v, u5, u6, u7, u8, u9, u10, u11, u12, u13, u14, u15, u16, u17, u18, u19, u20, u21, u22, u23, u24, u25, u26], defers := [] } ∧ (m : Int) ≤ 9007199254740992 ∧ k ≤ 20 ∧ m < 128 ^ (20 - k) ∧ Hid (bs ++ putN m = putN n) ∧ Hid (bs.length = k) ∧ Hid (w'.ownsRow w.heap.size 5 1 v k (bs.map (Value.int .u8))) ∧ Hid (Below w.heap.size w w')) (fun a' _ => (intOf (a'.tmps.getD 0 undef)).toNat) rfl ?_ ?_
  · by_cases hlt : n < 128
    · have hlt' : ¬ (n : Int) ≥ 128 := by omega
      go_wp2
      go_step3
      go_wp2_with (at_builtin; refine app_one slice8 info8 rfl (by decide) (.int .u8 _) rfl HO.out (by omega) HB.out.size rfl _ _ rfl rfl rfl ?_; intro v1 w1 ho1 hg1; have hcv := HLAST.out n 0 [] w1 v1 (by omega) rfl (by omega) rfl ho1)
      simp only [Exit.jump]
      go_ret2
      exact ⟨rfl, below_app HB.out HO.out (Nat.le_refl _) HB.out.size hg1⟩
    · have hlt' : (n : Int) ≥ 128 := by omega
      have hor := or_more n
      have hst := putN_step hlt
      go_wp2
      go_step3
      go_wp2_with (at_builtin; refine app_one slice8 info8 rfl (by decide) (.int .u8 _) rfl HO.out (by omega) HB.out.size rfl _ _ rfl rfl rfl ?_; intro v1 w1 ho1 hg1)
      go_step3
      refine And.intro rfl ?_
      have e1 : (n : Int) / 128 = ((n / 128 : Nat) : Int) := by omega
      have e2 : bits .or .u8 ((n : Int) % 256) 128 = ((n % 128 + 128 : Nat) : Int) := by rw [← or_more n]; rw [IntKind.wrap_u8]
      rw [e2] at ho1
      rw [e1]
      refine ⟨n / 128, 1, [((n % 128 + 128 : Nat) : Int)], v1, _, _, _, _, _, _, _, _, _, _, _, _, _, _, _, _, _, _, _, _, _, _, _, rfl, by omega, by decide, ?_, hst.symm, rfl, ho1, below_app HB.out HO.out (Nat.le_refl _) HB.out.size hg1⟩
      have : (128 : Nat) ^ (20 - 1) = 10889035741470030830827987437816582766592 := by decide
      omega
  · rintro a' w' ⟨m, k, bs, v, u1, u5, u6, u7, u8, u9, u10, u11, u12, u13, u14, u15, u16, u17, u18, u19, u20, u21, u22, u23, u24, u25, u26, rfl, hm, hk, hpow, HE, HL, HO, HB⟩
    clear hd hd2
    by_cases hlt : m < 128
    · have hlt' : ¬ (m : Int) ≥ 128 := by omega
      go_wp2_with (at_builtin; refine app_one slice8 info8 rfl (by decide) (.int .u8 _) rfl HO.out (by omega) HB.out.size rfl _ _ rfl rfl rfl ?_; intro v1 w1 ho1 hg1; have hcv := HLAST.out m k bs w1 v1 (by omega) HL.out (by omega) HE.out ho1)
      simp only [Exit.jump]
      go_ret2
      exact ⟨rfl, below_app HB.out HO.out (Nat.le_refl _) HB.out.size hg1⟩
    · have hlt' : (m : Int) ≥ 128 := by omega
      have hor := or_more m
      have hst := putN_step hlt
      have hk20 : k < 20 := by
        rcases Nat.lt_or_ge k 20 with h | h
        · exact h
        · obtain rfl : k = 20 := by omega
          simp at hpow; omega
      go_wp2_with (at_builtin; refine app_one slice8 info8 rfl (by decide) (.int .u8 _) rfl HO.out (by omega) HB.out.size rfl _ _ rfl rfl rfl ?_; intro v1 w1 ho1 hg1)
      go_step3
      refine And.intro rfl ?_
      have e1 : (m : Int) / 128 = ((m / 128 : Nat) : Int) := by omega
      have e2 : bits .or .u8 ((m : Int) % 256) 128 = ((m % 128 + 128 : Nat) : Int) := by rw [← or_more m]; rw [IntKind.wrap_u8]
      rw [e2] at ho1
      rw [e1]
      refine ⟨⟨m / 128, k + 1, bs ++ [((m % 128 + 128 : Nat) : Int)], v1, _, _, _, _, _, _, _, _, _, _, _, _, _, _, _, _, _, _, _, _, _, _, _, rfl, by omega, by omega, ?_, ?_, ?_, ?_, below_app HB.out HO.out (Nat.le_refl _) HB.out.size hg1⟩, ?_⟩
      · have h2 : (128 : Nat) ^ (20 - k) = 128 ^ (20 - (k + 1)) * 128 := by rw [← Nat.pow_succ]; congr 1; omega
        rw [h2] at hpow
        omega
      · show _ = _
        rw [← HE.out, hst]; simp
      · show _ = _
        rw [List.length_append, HL.out]; rfl
      · show World.ownsRow _ _ _ _ _ _ _
        rw [List.map_append]; exact ho1
      · simp [intOf]; omega
end Go.Proofs.Ytkmmphcmkmacpaa
