/-
  GL17c
-/
import Derived.Test.YtpehmadeklaebaaZGL17b
namespace Go.Proofs.Ytpehmadeklaebaa.V
open Go Go.RowKit
set_option linter.unusedVariables false
set_option linter.unusedSimpArgs false

set_option maxHeartbeats 4000000 in
set_option maxRecDepth 100000 in
theorem lastl_e : FE.ok Try.prog False (fe1 7 (.v cFacts) (fun x => True) (fun x => [.td .bool true])) := by
  refine efn1 EBM_ok Try.func7 rfl (by kernel_rfl) 75 rfl _ rfl (by kernel_rfl) fun E hY x hp => ?_
  refine e_run hY 800 (by kernel_rfl) ?_
  repeat (first | (refine And.intro ?_ ?_; (first | (exact trivial) | (exact Nat.le_of_ble_eq_true rfl) | (omega) | (simp only [Int.toNat_natCast, List.length_append, List.length_cons, List.length_nil, List.length_take, List.length_drop]; omega))))
  refine And.intro (fun h1 => ?_) (fun h1 => ?_)
  · repeat' (first
      | (exact And.intro rfl trivial)
      | (refine And.intro ?_ ?_; (first | exact trivial))
      | (refine and_sw (fun h => absurd (h.symm.trans (eqB_self _)) Bool.false_ne_true) (fun h => ?_))
      | (refine and_sw (fun h => absurd (h.symm.trans (decide_eq_true rfl)) Bool.false_ne_true) (fun h => ?_))
      | (refine And.intro (fun h => ?_) (fun h => ?_)))
  · have h30 : x.length ≤ 30 := fewF_len (by simpa using h1)
    have hx : x.length < 1000000 := by omega
    have hal := allR_length x
    have hel := elR_len x
    repeat (first
      | (refine And.intro ?_ ?_; (first | exact trivial | exact hx)))
    have q1 : (((allR x).length : Nat) : Int) = ((x.length : Nat) : Int) := by rw [hal]
    refine And.intro (fun h2 => ?_) (fun h2 => ?_)
    · exfalso; exact nd_t h2 q1
    · refine And.intro (fun h3 => ?_) (fun h3 => ?_)
      · exfalso
        have e1 : (0 < x.length) = (0 < ((x.length : Nat) : Int)) := propext (by omega)
        exact nd_t h3 (decide_eq_decide.2 (by rw [e1]))
      · have hlast : lastR x = (allR x).getD ((((allR x).length : Nat) : Int) - 1).toNat ⟨#[]⟩ := by
          unfold lastR; congr 1; omega
        have hmem : ∀ i, i < x.length → (allR x).getD i ⟨#[]⟩ ∈ elR x := fun i hi => by
          rw [elR_mem, ← allR_mem]; exact mem_getD _ (by omega)
        refine And.intro (fun h4 => ?_) (fun h4 => ?_)
        · have h5 : 0 < x.length := d_t h4
          repeat (first | (refine And.intro ?_ ?_; (first | (exact trivial) | (exact Nat.le_of_ble_eq_true rfl) | (omega) | (simp only [Int.toNat_natCast, List.length_append, List.length_cons, List.length_nil, List.length_take, List.length_drop]; omega))))
          refine And.intro (fun h5 => ?_) (fun h5 => ?_)
          · exfalso; exact nd_t h5 hlast
          · refine e_lp ?_
            refine e_loop hY 0 rfl (α := Nat) (fun i => ([(7, .td cInt (i : Int))], [])) (fun i => i ≤ x.length) (fun i => x.length - i) 0 (Nat.zero_le _) ?_ fun i hi => ?_
            · repeat (first | exact trivial | (refine And.intro ?_ ?_; (rfl)))
            · refine e_run hY 400 (by kernel_rfl) ?_
              refine And.intro (fun g1 => ?_) (fun g1 => ?_)
              · have hlt : i < x.length := by have := nat_t g1; omega
                have hmi := hmem i hlt
                refine e_lp ?_
                refine e_loop hY 1 rfl (α := Nat) (fun k => ([(8, .td .bool (hasB (α := ByteArray) ((elR x).take k) ((allR x).getD i ⟨#[]⟩))), (9, .td cInt (k : Int))], [])) (fun k => k ≤ (elR x).length) (fun k => (elR x).length - k) 0 (Nat.zero_le _) ?_ fun k hk => ?_
                · have e0 : false = hasB (α := ByteArray) ((elR x).take 0) ((allR x).getD i ⟨#[]⟩) := hasB_f (by simp)
                  repeat (first | exact trivial | (refine And.intro ?_ ?_; (first | exact e0 | rfl)))
                · refine e_run hY 400 (by kernel_rfl) ?_
                  refine And.intro (fun g2 => ?_) (fun g2 => ?_)
                  · have hkl := nat_t g2
                    have htk := take_getD (l := elR x) ⟨#[]⟩ hkl
                    refine And.intro (fun g3 => ?_) (fun g3 => ?_)
                    · have e9 : true = hasB (α := ByteArray) ((elR x).take (k + 1)) ((allR x).getD i ⟨#[]⟩) := hasB_t (by rw [htk]; exact List.mem_append_left _ (hasB_m g3))
                      repeat (first | (refine And.intro ?_ ?_; (first | (exact trivial) | (exact Nat.le_of_ble_eq_true rfl) | (omega) | (simp only [Int.toNat_natCast, List.length_append, List.length_cons, List.length_nil, List.length_take, List.length_drop]; omega))))
                      refine e_back (k + 1) hkl (by omega) ?_
                      repeat (first | exact trivial | (refine And.intro ?_ ?_; (first | rfl | exact e9)))
                    · have e9 : ∀ inst : Decidable ((elR x).getD k ⟨#[]⟩ = (allR x).getD i ⟨#[]⟩), @decide _ inst = hasB (α := ByteArray) ((elR x).take (k + 1)) ((allR x).getD i ⟨#[]⟩) := fun inst => by
                        have := hasB_n g3
                        refine decide_eq_decide.2 ⟨fun h => by rw [htk, h]; simp, fun h => ?_⟩
                        rw [htk] at h
                        rcases List.mem_append.1 h with h | h
                        · exact absurd h this
                        · exact (List.mem_singleton.1 h).symm
                      repeat (first | (refine And.intro ?_ ?_; (first | (exact trivial) | (exact Nat.le_of_ble_eq_true rfl) | (omega) | (simp only [Int.toNat_natCast, List.length_append, List.length_cons, List.length_nil, List.length_take, List.length_drop]; omega))))
                      refine e_back (k + 1) hkl (by omega) ?_
                      repeat (first | exact trivial | (refine And.intro ?_ ?_; (first | rfl | exact e9 _)))
                  · have hge := nat_f g2
                    refine And.intro (fun g3 => ?_) (fun g3 => ?_)
                    · exfalso
                      have h9 : ¬ (allR x).getD i ⟨#[]⟩ ∈ (elR x).take k := hasB_n (by simpa using g3)
                      rw [List.take_of_length_le hge] at h9
                      exact h9 hmi
                    · repeat (first | (refine And.intro ?_ ?_; (first | (exact trivial) | (exact Nat.le_of_ble_eq_true rfl) | (omega) | (simp only [Int.toNat_natCast, List.length_append, List.length_cons, List.length_nil, List.length_take, List.length_drop]; omega))))
                      refine e_skip rfl (e_back (i + 1) hlt (by omega) ?_)
                      repeat (first | exact trivial | (refine And.intro ?_ ?_; (rfl)))
              · repeat' (first
      | (exact And.intro rfl trivial)
      | (refine And.intro ?_ ?_; (first | exact trivial))
      | (refine and_sw (fun h => absurd (h.symm.trans (eqB_self _)) Bool.false_ne_true) (fun h => ?_))
      | (refine and_sw (fun h => absurd (h.symm.trans (decide_eq_true rfl)) Bool.false_ne_true) (fun h => ?_))
      | (refine And.intro (fun h => ?_) (fun h => ?_)))
        · refine e_lp ?_
          refine e_loop hY 0 rfl (α := Nat) (fun i => ([(7, .td cInt (i : Int))], [])) (fun i => i ≤ x.length) (fun i => x.length - i) 0 (Nat.zero_le _) ?_ fun i hi => ?_
          · repeat (first | exact trivial | (refine And.intro ?_ ?_; (rfl)))
          · refine e_run hY 400 (by kernel_rfl) ?_
            refine And.intro (fun g1 => ?_) (fun g1 => ?_)
            · have hlt : i < x.length := by have := nat_t g1; omega
              have hmi := hmem i hlt
              refine e_lp ?_
              refine e_loop hY 1 rfl (α := Nat) (fun k => ([(8, .td .bool (hasB (α := ByteArray) ((elR x).take k) ((allR x).getD i ⟨#[]⟩))), (9, .td cInt (k : Int))], [])) (fun k => k ≤ (elR x).length) (fun k => (elR x).length - k) 0 (Nat.zero_le _) ?_ fun k hk => ?_
              · have e0 : false = hasB (α := ByteArray) ((elR x).take 0) ((allR x).getD i ⟨#[]⟩) := hasB_f (by simp)
                repeat (first | exact trivial | (refine And.intro ?_ ?_; (first | exact e0 | rfl)))
              · refine e_run hY 400 (by kernel_rfl) ?_
                refine And.intro (fun g2 => ?_) (fun g2 => ?_)
                · have hkl := nat_t g2
                  have htk := take_getD (l := elR x) ⟨#[]⟩ hkl
                  refine And.intro (fun g3 => ?_) (fun g3 => ?_)
                  · have e9 : true = hasB (α := ByteArray) ((elR x).take (k + 1)) ((allR x).getD i ⟨#[]⟩) := hasB_t (by rw [htk]; exact List.mem_append_left _ (hasB_m g3))
                    repeat (first | (refine And.intro ?_ ?_; (first | (exact trivial) | (exact Nat.le_of_ble_eq_true rfl) | (omega) | (simp only [Int.toNat_natCast, List.length_append, List.length_cons, List.length_nil, List.length_take, List.length_drop]; omega))))
                    refine e_back (k + 1) hkl (by omega) ?_
                    repeat (first | exact trivial | (refine And.intro ?_ ?_; (first | rfl | exact e9)))
                  · have e9 : ∀ inst : Decidable ((elR x).getD k ⟨#[]⟩ = (allR x).getD i ⟨#[]⟩), @decide _ inst = hasB (α := ByteArray) ((elR x).take (k + 1)) ((allR x).getD i ⟨#[]⟩) := fun inst => by
                      have := hasB_n g3
                      refine decide_eq_decide.2 ⟨fun h => by rw [htk, h]; simp, fun h => ?_⟩
                      rw [htk] at h
                      rcases List.mem_append.1 h with h | h
                      · exact absurd h this
                      · exact (List.mem_singleton.1 h).symm
                    repeat (first | (refine And.intro ?_ ?_; (first | (exact trivial) | (exact Nat.le_of_ble_eq_true rfl) | (omega) | (simp only [Int.toNat_natCast, List.length_append, List.length_cons, List.length_nil, List.length_take, List.length_drop]; omega))))
                    refine e_back (k + 1) hkl (by omega) ?_
                    repeat (first | exact trivial | (refine And.intro ?_ ?_; (first | rfl | exact e9 _)))
                · have hge := nat_f g2
                  refine And.intro (fun g3 => ?_) (fun g3 => ?_)
                  · exfalso
                    have h9 : ¬ (allR x).getD i ⟨#[]⟩ ∈ (elR x).take k := hasB_n (by simpa using g3)
                    rw [List.take_of_length_le hge] at h9
                    exact h9 hmi
                  · repeat (first | (refine And.intro ?_ ?_; (first | (exact trivial) | (exact Nat.le_of_ble_eq_true rfl) | (omega) | (simp only [Int.toNat_natCast, List.length_append, List.length_cons, List.length_nil, List.length_take, List.length_drop]; omega))))
                    refine e_skip rfl (e_back (i + 1) hlt (by omega) ?_)
                    repeat (first | exact trivial | (refine And.intro ?_ ?_; (rfl)))
            · repeat' (first
      | (exact And.intro rfl trivial)
      | (refine And.intro ?_ ?_; (first | exact trivial))
      | (refine and_sw (fun h => absurd (h.symm.trans (eqB_self _)) Bool.false_ne_true) (fun h => ?_))
      | (refine and_sw (fun h => absurd (h.symm.trans (decide_eq_true rfl)) Bool.false_ne_true) (fun h => ?_))
      | (refine And.intro (fun h => ?_) (fun h => ?_)))

end Go.Proofs.Ytpehmadeklaebaa.V
