/-
  G15
-/
import Derived.Test.YtpehmadeklaebaaZG1
namespace Go.Proofs.Ytpehmadeklaebaa.V
open Go Go.RowKit
set_option linter.unusedVariables false
set_option linter.unusedSimpArgs false

def fLt (a b : FactT) : Bool := if a.2.2.2.1 = b.2.2.2.1 then (if a.2.2.1 = b.2.2.1 then (if a.1 = b.1 then (if a.2.1 = b.2.1 then lessS a.2.2.2.2 b.2.2.2.2 else sLt a.2.1 b.2.1) else dLt a.1 b.1) else decide (a.2.2.1 < b.2.2.1)) else lessS a.2.2.2.1 b.2.2.2.1

set_option maxHeartbeats 4000000 in
set_option maxRecDepth 100000 in
theorem rfin_e {K : Prop} : FE.ok Try.prog K (fe2 57 (.v (.list cFact)) (.v cFact) (fun x y => x.length < 1000000) (fun x y => [.td .bool (hasB (α := FactT) x y)])) := by
  refine efn2 EB4_ok Try.func57 rfl (by kernel_rfl) 18 rfl _ rfl (by kernel_rfl) fun E hY x y hp => ?_
  refine e_run hY 400 (by kernel_rfl) ?_
  refine e_lp ?_
  refine e_loop hY 0 rfl (α := Nat) (fun i => ([(5, .td cInt (i : Int))], [.cell 64 (.td cFact y)])) (fun i => i ≤ x.length ∧ y ∉ x.take i) (fun i => x.length - i) 0 ⟨Nat.zero_le _, by simp⟩ ?_ fun i hi => ?_
  · repeat (first | exact trivial | (refine And.intro ?_ ?_; (rfl)))
  · obtain ⟨hi, hd⟩ := hi
    refine e_run hY 400 (by kernel_rfl) ?_
    refine And.intro (fun h1 => ?_) (fun h1 => ?_)
    · have hlt := nat_t h1
      refine And.intro ⟨by omega, by omega⟩ ?_
      refine And.intro (fun h2 => ?_) (fun h2 => ?_)
      · have h3 : x.getD i (Ty.dflt cFact) = y := d_t h2
        refine And.intro ?_ trivial
        rw [← h3]; exact hasB_t (mem_getD _ hlt)
      · have h3 : ¬ x.getD i (Ty.dflt cFact) = y := d_f h2
        refine And.intro (by omega) ?_
        refine e_back (i + 1) ⟨hlt, nmem_step _ hlt hd h3⟩ (by omega) ?_
        repeat (first | exact trivial | (refine And.intro ?_ ?_; (rfl)))
    · have hge := nat_f h1
      refine And.intro ?_ trivial
      rw [List.take_of_length_le hge] at hd
      exact hasB_f hd

set_option maxHeartbeats 4000000 in
set_option maxRecDepth 100000 in
theorem rfsame_e {K : Prop} : FE.ok Try.prog K (fe2 24 (.v (.list cFact)) (.v (.list cFact)) (fun x y => x.length < 1000000) (fun x y => [.td .bool (eqB (α := FactT) x y)])) := by
  refine efn2 EB4_ok Try.func24 rfl (by kernel_rfl) 26 rfl _ rfl (by kernel_rfl) fun E hY x y hp => ?_
  refine e_run hY 400 (by kernel_rfl) ?_
  refine And.intro (fun h0 => ?_) (fun h0 => ?_)
  · refine And.intro ?_ trivial
    have h1 := nd_t h0
    exact eqB_f (fun e => h1 (by rw [e]))
  · have hl : x.length = y.length := by have := nd_f h0; omega
    refine e_lp ?_
    refine e_loop hY 0 rfl (α := Nat) (fun i => ([(5, .td cInt (i : Int))], [])) (fun i => i ≤ x.length ∧ x.take i = y.take i) (fun i => x.length - i) 0 ⟨Nat.zero_le _, by simp⟩ ?_ fun i hi => ?_
    · repeat (first | exact trivial | (refine And.intro ?_ ?_; (rfl)))
    · obtain ⟨hi, hd⟩ := hi
      refine e_run hY 400 (by kernel_rfl) ?_
      refine And.intro (fun h1 => ?_) (fun h1 => ?_)
      · have hlt := nat_t h1
        refine And.intro ⟨by omega, by omega⟩ ?_
        refine And.intro ⟨by omega, by omega⟩ ?_
        refine And.intro (fun h2 => ?_) (fun h2 => ?_)
        · have h3 : ¬ x.getD i (Ty.dflt cFact) = y.getD i (Ty.dflt cFact) := nd_t h2
          refine And.intro ?_ trivial
          exact eqB_f (fun e => h3 (by rw [e]))
        · have h3 : x.getD i (Ty.dflt cFact) = y.getD i (Ty.dflt cFact) := nd_f h2
          refine And.intro (by omega) ?_
          refine e_back (i + 1) ⟨hlt, eq_step _ hlt (by omega) hd h3⟩ (by omega) ?_
          repeat (first | exact trivial | (refine And.intro ?_ ?_; (rfl)))
      · have hge := nat_f h1
        refine And.intro ?_ trivial
        exact eqB_t (eq_all hl hge hd)

set_option maxHeartbeats 4000000 in
set_option maxRecDepth 100000 in
theorem texts_e {K : Prop} : FE.ok Try.prog K (fe2 27 (.v (.list .str)) (.v (.list .str)) (fun x y => x.length < 1000000) (fun x y => [.td .bool (eqB (α := ByteArray) x y)])) := by
  refine efn2 EB4_ok Try.func27 rfl (by kernel_rfl) 26 rfl _ rfl (by kernel_rfl) fun E hY x y hp => ?_
  refine e_run hY 400 (by kernel_rfl) ?_
  refine And.intro (fun h0 => ?_) (fun h0 => ?_)
  · refine And.intro ?_ trivial
    have h1 := nd_t h0
    exact eqB_f (fun e => h1 (by rw [e]))
  · have hl : x.length = y.length := by have := nd_f h0; omega
    refine e_lp ?_
    refine e_loop hY 0 rfl (α := Nat) (fun i => ([(5, .td cInt (i : Int))], [])) (fun i => i ≤ x.length ∧ x.take i = y.take i) (fun i => x.length - i) 0 ⟨Nat.zero_le _, by simp⟩ ?_ fun i hi => ?_
    · repeat (first | exact trivial | (refine And.intro ?_ ?_; (rfl)))
    · obtain ⟨hi, hd⟩ := hi
      refine e_run hY 400 (by kernel_rfl) ?_
      refine And.intro (fun h1 => ?_) (fun h1 => ?_)
      · have hlt := nat_t h1
        refine And.intro ⟨by omega, by omega⟩ ?_
        refine And.intro ⟨by omega, by omega⟩ ?_
        refine And.intro (fun h2 => ?_) (fun h2 => ?_)
        · have h3 : ¬ x.getD i (Ty.dflt .str) = y.getD i (Ty.dflt .str) := nd_t h2
          refine And.intro ?_ trivial
          exact eqB_f (fun e => h3 (by rw [e]))
        · have h3 : x.getD i (Ty.dflt .str) = y.getD i (Ty.dflt .str) := nd_f h2
          refine And.intro (by omega) ?_
          refine e_back (i + 1) ⟨hlt, eq_step _ hlt (by omega) hd h3⟩ (by omega) ?_
          repeat (first | exact trivial | (refine And.intro ?_ ?_; (rfl)))
      · have hge := nat_f h1
        refine And.intro ?_ trivial
        exact eqB_t (eq_all hl hge hd)

set_option maxHeartbeats 4000000 in
set_option maxRecDepth 100000 in
theorem rfless_e {K : Prop} : FE.ok Try.prog K (fe2 58 (.v cFact) (.v cFact) (fun x y => True) (fun x y => [.td .bool (fLt x y)])) := by
  refine efn2 EB4_ok Try.func58 rfl (by kernel_rfl) 54 rfl _ rfl (by kernel_rfl) fun E hY x y hp => ?_
  refine e_run hY 400 (by kernel_rfl) ?_
  repeat' (first | (refine And.intro ?_ ?_ <;> intro _) | (refine And.intro ?_ ?_; (exact trivial)) | (refine And.intro ?_ ?_; (exact Nat.le_of_ble_eq_true rfl)) | (refine And.intro ?_ ?_; (omega)))
  all_goals (refine And.intro ?_ trivial)
  all_goals (simp only [fLt, lessS, eqT] at *; grind)

def F5 : List FE := [fe2 57 (.v (.list cFact)) (.v cFact) (fun x y => x.length < 1000000) (fun x y => [.td .bool (hasB (α := FactT) x y)]), fe2 58 (.v cFact) (.v cFact) (fun x y => True) (fun x y => [.td .bool (fLt x y)])] ++ F4
def EB5 : EB := ebOf TTa F5 QQ
theorem F5_ok {K : Prop} : AllFE Try.prog K F5 := AllFE.append ⟨rfin_e, rfless_e, trivial⟩ F4_ok
theorem EB5_ok {K : Prop} : EBok EB5 Try.prog K := ebOf_ok mixP TTa_ok F5_ok QQ_ok

set_option maxHeartbeats 4000000 in
set_option maxRecDepth 100000 in
theorem rfsort_e {K : Prop} : FE.ok Try.prog K (fe1 32 (.v (.list cFact)) (fun x => x.length < 1000000) (fun x => [.td (.list cFact) (sortK fLt x)])) := by
  refine efn1 EB5_ok Try.func32 rfl (by kernel_rfl) 55 rfl _ rfl (by kernel_rfl) fun E hY x hp => ?_
  refine e_run hY 400 (by kernel_rfl) ?_
  refine e_lp ?_
  refine e_loop hY 0 rfl (α := Nat) (fun i => ([(3, .td (.list cFact) (sortK fLt (x.take i))), (4, .td cInt (i : Int))], [])) (fun i => i ≤ x.length) (fun i => x.length - i) 0 (Nat.zero_le _) ?_ fun i hi => ?_
  · repeat (first | exact trivial | (refine And.intro ?_ ?_; (rfl)))
  · have hle := sortK_length_le (lt := fLt) (x.take i)
    rw [List.length_take] at hle
    generalize hL : sortK fLt (x.take i) = L at hle ⊢
    have hsn : ∀ h : i < x.length, sortK fLt (x.take (i + 1)) = insK fLt L (x.getD i (Ty.dflt cFact)) := fun h => by rw [take_getD (Ty.dflt cFact) h, sortK_snoc, hL]
    refine e_run hY 400 (by kernel_rfl) ?_
    refine And.intro (fun h1 => ?_) (fun h1 => ?_)
    · have hlt := nat_t h1
      have hsn := hsn hlt
      refine And.intro ⟨by omega, by omega⟩ ?_
      refine And.intro (by omega) ?_
      refine And.intro (fun h2 => ?_) (fun h2 => ?_)
      · refine And.intro (by omega) ?_
        refine e_back (i + 1) hlt (by omega) ?_
        have h3 : x.getD i (Ty.dflt cFact) ∈ L := hasB_m (α := FactT) h2
        refine And.intro ?_ ?_
        · rw [hsn]; unfold insK; rw [if_pos h3]
        · repeat (first | exact trivial | (refine And.intro ?_ ?_; (rfl)))
      · have h3 : ¬ x.getD i (Ty.dflt cFact) ∈ L := hasB_n (α := FactT) h2
        refine e_lp ?_
        refine e_loop hY 1 rfl (α := Nat) (fun k => ([(5, .td cInt (k : Int))], [])) (fun k => k ≤ L.length ∧ ∀ j, j < k → fLt (L.getD j (Ty.dflt cFact)) (x.getD i (Ty.dflt cFact)) = true) (fun k => L.length - k) 0 ⟨Nat.zero_le _, fun j hj => by omega⟩ ?_ fun k hk => ?_
        · repeat (first | exact trivial | (refine And.intro ?_ ?_; (rfl)))
        · obtain ⟨hk, hd⟩ := hk
          have stop : (k = L.length ∨ fLt (L.getD k (Ty.dflt cFact)) (x.getD i (Ty.dflt cFact)) = false) → L.take k ++ [x.getD i (Ty.dflt cFact)] ++ L.drop k = sortK fLt (x.take (i + 1)) := fun h => by
            obtain ⟨e1, e2⟩ := tw_at (p := fun y => fLt y (x.getD i (Ty.dflt cFact))) (Ty.dflt cFact) hk hd h
            rw [hsn]; unfold insK; rw [if_neg h3, e1, e2]; simp
          refine e_run hY 600 (by kernel_rfl) ?_
          refine And.intro (fun g1 => ?_) (fun g1 => ?_)
          · have hkl := nat_t g1
            refine And.intro ⟨by omega, by omega⟩ ?_
            refine And.intro ⟨by omega, by omega⟩ ?_
            refine And.intro trivial ?_
            refine And.intro (fun g2 => ?_) (fun g2 => ?_)
            · refine And.intro (by omega) ?_
              refine e_back (k + 1) ⟨hkl, fun j hj => ?_⟩ (by omega) ?_
              · by_cases hjk : j = k
                · subst hjk; exact g2
                · exact hd j (by omega)
              · repeat (first | exact trivial | (refine And.intro ?_ ?_; (rfl)))
            · repeat (first | (refine And.intro ?_ ?_; (first | (exact trivial) | (exact Nat.le_of_ble_eq_true rfl) | (omega) | (simp only [Int.toNat_natCast, List.length_append, List.length_cons, List.length_nil, List.length_take, List.length_drop]; omega))))
              refine e_skip rfl (e_back (i + 1) hlt (by omega) ?_)
              refine And.intro (stop (.inr g2)) ?_
              repeat (first | exact trivial | (refine And.intro ?_ ?_; (rfl)))
          · have hkl := nat_f g1
            repeat (first | (refine And.intro ?_ ?_; (first | (exact trivial) | (exact Nat.le_of_ble_eq_true rfl) | (omega) | (simp only [Int.toNat_natCast, List.length_append, List.length_cons, List.length_nil, List.length_take, List.length_drop]; omega))))
            refine e_skip rfl (e_back (i + 1) hlt (by omega) ?_)
            refine And.intro (stop (.inl (by omega))) ?_
            repeat (first | exact trivial | (refine And.intro ?_ ?_; (rfl)))
    · have hge := nat_f h1
      refine And.intro ?_ trivial
      rw [List.take_of_length_le hge] at hL
      exact hL.symm

end Go.Proofs.Ytpehmadeklaebaa.V
