/-
  almonrylaw05.FloatOrder answers true at every three words: the walk.
-/
import Derived.Test.YtngjfeielpnnnaaFloatAwake
namespace Go.Proofs.Ytngjfeielpnnnaa
open Go.RowKit
open FloatPlain
open Stable
set_option linter.unusedVariables false
set_option linter.unusedSimpArgs false
attribute [local go_sem] run_frombits run_bits u64_signed run_store_float

theorem key_nan (a : Nat) (h : isNanB a = true) : keyB a = 18444492273895866369 := by
  have hr : rawB a = 9221120237041090561 := by unfold rawB; rw [h]; rfl
  unfold keyB; rw [hr, if_pos (by decide)]
theorem key_le (b : Nat) (hb : b < 18446744073709551616) : keyB b ≤ 18444492273895866369 := by
  cases h : isNanB b with
  | true => rw [key_nan b h]; exact Nat.le_refl _
  | false =>
    have hr : rawB b = b := by unfold rawB; rw [h]; rfl
    unfold isNanB rungOf at h
    have h := of_decide_eq_false h
    unfold keyB; rw [hr]
    split <;> omega

/-- What the law's tests come to. -/
structure OrdFacts (ab ba bc ac same lt0 eq0 : Bool) : Prop where
  f1 : ¬ (ab = true ∧ ba = true)
  f2 : (ab || ba) ≠ same
  f3 : ab = true → bc = true → ac = true
  f4 : lt0 = true → ab = true
  f5 : eq0 = false → ab = false

theorem ord_facts (a b c : Nat) (ha : W64 a) (hb : W64 b) (hc : W64 c) :
    OrdFacts (decide (keyB a < keyB b)) (decide (keyB b < keyB a)) (decide (keyB b < keyB c)) (decide (keyB a < keyB c)) (decide (rawB a = rawB b)) (FloatKind.f64.format.order a b == some .lt) (FloatKind.f64.format.order a a == some .eq) where
  f1 := by simp; omega
  f2 := by
    have h := keyB_inj ha hb
    by_cases h1 : keyB a = keyB b
    · rw [decide_eq_true (h.1 h1), decide_eq_false (by omega), decide_eq_false (by omega)]; simp
    · rw [decide_eq_false (fun e => h1 (h.2 e))]
      rcases Nat.lt_or_gt_of_ne h1 with g | g
      · rw [decide_eq_true g]; simp
      · rw [decide_eq_true (show keyB b < keyB a from g)]; simp
  f3 := by simp; omega
  f4 := fun h => decide_eq_true (order_lt_key ha hb (show FloatKind.f64.format.order a b = some .lt by simpa using h))
  f5 := fun h => by
    have : isNanB a = true := by
      have e := order_self a
      have h' : (Ieee.double.order a a == some .eq) = false := h
      rw [h'] at e
      cases hh : isNanB a with
      | true => rfl
      | false => rw [hh] at e; cases e
    have h1 := key_nan a this
    have h2 := key_le b hb
    exact decide_eq_false (by omega)

set_option maxHeartbeats 8000000 in
set_option maxRecDepth 100000 in
theorem order_walk (a b c : Nat) (ha : W64 a) (hb : W64 b) (hc : W64 c) (w : World) :
    Calls Try.prog 3 #[.agg #[.int .u64 a, .int .u64 b, .int .u64 c]] w fun e w' => e = .returned (.bool true) ∧ Below w.heap.size w w' := by
  have F := ord_facts a b c ha hb hc
  have lab := less_c a b ha hb
  have lba := less_c b a hb ha
  have lbc := less_c b c hb hc
  have lac := less_c a c ha hc
  have cca := clean_c a
  have ccb := clean_c b
  have css := same_c (rawB a) (rawB b)
  have haw := awake05_c
  generalize rawB a = ra at *
  generalize rawB b = rb at *
  generalize decide (keyB a < keyB b) = ab at *
  generalize decide (keyB b < keyB a) = ba at *
  generalize decide (keyB b < keyB c) = bc at *
  generalize decide (keyB a < keyB c) = ac at *
  generalize decide (ra = rb) = same at *
  generalize ho1 : (FloatKind.f64.format.order a b == some .lt) = lt0 at *
  generalize ho2 : (FloatKind.f64.format.order a a == some .eq) = eq0 at *
  clear ha hb hc
  go_enter Try.func3, Try.ntmps3
  go_wp2_with fail
  go_quiet (fail)
  have HB : Hid (Below w.heap.size w ((w.alloc (.cells #[.int .u64 a, .int .u64 b, .int .u64 c] 23)).drewN nq)) := below_drewN ((Below.refl _ _).alloc (Nat.le_refl _) _) _
  go_wp2_with (first | (go_at_call 17; (first | (with_reducible refine (cca _).mono ?_) | (with_reducible refine (ccb _).mono ?_)); rintro e w' ⟨rfl, rfl⟩) | (go_at_call 16; (with_reducible refine (css _).mono ?_); rintro e w' ⟨rfl, rfl⟩))
  generalize (w.alloc (.cells #[.int .u64 a, .int .u64 b, .int .u64 c] 23)).drewN nq = w1 at HB ⊢
  cases ab <;> cases ba <;> cases same <;> cases lt0 <;> cases eq0 <;> cases bc <;> cases ac <;> first | (exfalso; obtain ⟨f1, f2, f3, f4, f5⟩ := F; revert f1 f2 f3 f4 f5; decide) | skip
  all_goals clear F
  all_goals
    go_wp2_with (first | (go_at_call 18; (first | (with_reducible refine (lab _).mono ?_) | (with_reducible refine (lba _).mono ?_) | (with_reducible refine (lbc _).mono ?_) | (with_reducible refine (lac _).mono ?_)); rintro e w' ⟨rfl, rfl⟩) | (go_at_call 19; refine (haw _).mono ?_; rintro e w9 ⟨rfl, hb9⟩))
    go_ret
    exact ⟨rfl, HB.out.trans (hb9.mono HB.out.size)⟩
end Go.Proofs.Ytngjfeielpnnnaa
