/-
  almonryref01.R.Done; slices.Clone of names.
-/
import Derived.Test.YtkmmphcmkmacpaaWireRef
import Derived.Test.YtkmmphcmkmacpaaDotSame
import Derived.Lib.SliceRun
namespace Go.Proofs.Ytkmmphcmkmacpaa
open Go.RowKit
set_option linter.unusedVariables false
set_option linter.unusedSimpArgs false

set_option maxRecDepth 100000 in
theorem rdone_c (s : ByteArray) (e : Int) (w : World) : Calls Try.prog 88 #[.agg #[.string s, .int .i64 e]] w fun r w' => r = .returned (.int .i64 (doneE (s, e))) ∧ Below w.heap.size w w' := by
  by_cases he : e = 0
  · subst he
    have hse := str_empty_iff s
    by_cases hz : s.size = 0
    · rw [decide_eq_true hz] at hse
      have hd : doneE (s, 0) = 0 := by unfold doneE; rw [if_neg (by simp), if_pos hz]
      rw [hd]; clear hd hz
      go_enter Try.func88, Try.ntmps88
      go_wp2
      go_ret
      exact ⟨rfl, (Below.refl _ _).alloc (Nat.le_refl _) _⟩
    · rw [decide_eq_false hz] at hse
      have hd : doneE (s, 0) = 5 := by unfold doneE; rw [if_neg (by simp), if_neg hz]
      rw [hd]; clear hd hz
      go_enter Try.func88, Try.ntmps88
      go_wp2
      go_ret
      exact ⟨rfl, (Below.refl _ _).alloc (Nat.le_refl _) _⟩
  · have heb : (e == 0) = false := by simpa using he
    have hd : doneE (s, e) = e := by unfold doneE; rw [if_pos (by simpa using he)]
    rw [hd]; clear hd
    go_enter Try.func88, Try.ntmps88
    go_wp2
    go_ret
    exact ⟨rfl, (Below.refl _ _).alloc (Nat.le_refl _) _⟩

theorem infoDot : (Try.prog.info? 23).map (fun i => (i.zero, i.size, i.bytes)) = some (some (.agg #[.int .i64 0, .int .i64 0]), 2, 16) := by kernel_rfl
theorem sliceDot : Try.prog.underlying 27 = some (.slice 23) := by kernel_rfl

theorem nil_dot (w : World) (a : Option Addr) (n c : Nat) : (binOp .eql 27 (.slice a n c) (.slice none 0 0)).run Try.prog w = .ok (.bool a.isNone) w := Lib.run_eql_slice_nil w _ _ a n c 0 0 sliceDot
attribute [local go_sem] nil_dot
/-- A row of names of the call's own. -/
abbrev OwnD (w : World) (base : Nat) (v : Value) (l : List (Int × Int)) : Prop := w.ownsRow base 23 2 v l.length (l.flatMap encD)
theorem enc_one (l : List (Int × Int)) : ∀ u ∈ l.flatMap encD, u.oneCell' = true := by
  intro u hu
  obtain ⟨d, _, hd⟩ := List.mem_flatMap.1 hu
  simp [encD] at hd
  rcases hd with rfl | rfl <;> rfl

set_option maxHeartbeats 1000000 in
set_option maxRecDepth 100000 in
theorem clone_c (A : Option Addr) (n c B : Nat) (l : List (Int × Int)) (w : World) (h1 : RdD w B A n l) (hB : B ≤ w.heap.size) (hn : n < 1000000) :
    Calls Try.prog 112 #[.slice A n c] w fun e w' => ∃ v, e = .returned v ∧ OwnD w' w.heap.size v l ∧ Below w.heap.size w w' := by
  have HX := Lib.hid h1.len
  have HR := Lib.hid (Reads.more h1 hB)
  clear h1 hB
  cases A with
  | none =>
    have h0 : n = 0 := by
      rcases Nat.eq_zero_or_pos n with h | h
      · exact h
      · obtain ⟨ad, e, _⟩ := HR.out.2 h
        cases e
    subst h0
    have HL : Hid (l = []) := List.eq_nil_of_length_eq_zero HX.out
    go_enter Try.func112, Try.ntmps112
    go_wp2
    go_ret
    refine ⟨_, rfl, ?_, Below.refl _ _⟩
    rw [show l = [] from HL.out]
    exact World.ownsRow_nil _ _ _ _
  | some ad =>
    obtain ⟨i, hi, hz, hsz, hby⟩ := info_parts infoDot
    have HI := Lib.hid (And.intro hi (And.intro hz (And.intro hsz hby)))
    clear hi hz hsz hby
    go_enter Try.func112, Try.ntmps112
    go_wp2_with (at_builtin; refine wpList_append_any (P := Try.prog) _ rfl _ _ 27 rfl w.heap.size 23 i _ 2 16 sliceDot HI.out.1 HI.out.2.1 HI.out.2.2.1 HI.out.2.2.2 rfl (by decide) _ 0 [] rfl (World.ownsRow_lit (base := w.heap.size) (e := 23) (size := 2) w #[] 0 (Nat.le_refl _) (by simp [maxLen]) rfl) _ _ _ _ _ rfl (HR.out.alloc (Nat.le_refl _) _) (enc_one l) (by simp only [maxLen]; omega) (by omega) (by simp) ?_; intro v' w' h2 h3 h4)
    go_ret
    refine ⟨_, rfl, ?_, ?_⟩
    · show World.ownsRow _ _ _ _ _ _ _
      rw [HX.out]; simpa using h2
    · exact below_app ((Below.refl _ _).alloc (Nat.le_refl _) _) (World.ownsRow_lit (base := w.heap.size) (e := 23) (size := 2) w #[] 0 (Nat.le_refl _) (by simp [maxLen]) rfl) (Nat.le_refl _) (by simp) h3
end Go.Proofs.Ytkmmphcmkmacpaa
