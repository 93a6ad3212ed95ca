/-
  DotSame
-/
import Derived.Test.YtmhkalalcmkpbaaGreatZDotSmall
import Derived.Laws.StructEq
namespace Go.Proofs.YtmhkalalcmkpbaaGreat
open Go.RowKit
set_option linter.unusedVariables false
set_option linter.unusedSimpArgs false

theorem eq_dot (w : World) (a1 a2 b1 b2 : Int) : (Op.equalIn 10000 32 (.agg #[.int .i64 a1, .int .i64 a2]) (.agg #[.int .i64 b1, .int .i64 b2])).run Tryz.prog w = .ok (decide (a1 = b1 ∧ a2 = b2)) w := by
  rw [run_equalIn_struct w 9999 _ _ _ (by kernel_rfl) (by kernel_rfl)]
  go_simp
  by_cases h1 : a1 = b1 <;> by_cases h2 : a2 = b2 <;> simp [h1, h2]
theorem run_eql_dot (w : World) (a1 a2 b1 b2 : Int) : (binOp .eql 32 (.agg #[.int .i64 a1, .int .i64 a2]) (.agg #[.int .i64 b1, .int .i64 b2])).run Tryz.prog w = .ok (.bool (decide (a1 = b1 ∧ a2 = b2))) w := by
  rw [run_eql_struct, eq_dot]; rfl
theorem run_neq_dot (w : World) (a1 a2 b1 b2 : Int) : (binOp .neq 32 (.agg #[.int .i64 a1, .int .i64 a2]) (.agg #[.int .i64 b1, .int .i64 b2])).run Tryz.prog w = .ok (.bool (!decide (a1 = b1 ∧ a2 = b2))) w := by
  rw [run_neq_struct, eq_dot]; rfl
theorem guard_dot : Tryz.prog.eqGuardType Tryz.prog.depth 32 = false := by kernel_rfl
attribute [local go_sem] eq_dot guard_dot

def encD (d : Int × Int) : List Value := [.int .i64 d.1, .int .i64 d.2]
/-- A slice of names that reads as l. -/
abbrev RdD (w : World) (B : Nat) (A : Option Addr) (n : Nat) (l : List (Int × Int)) : Prop := Reads w B 2 A n (l.flatMap encD)
theorem flat_length (l : List (Int × Int)) : (l.flatMap encD).length = l.length * 2 := by
  induction l with
  | nil => rfl
  | cons d l ih => rw [List.flatMap_cons, List.length_append, ih, List.length_cons]; simp [encD]; omega
theorem flat_get (l : List (Int × Int)) (k : Nat) (hk : k < l.length) : (l.flatMap encD)[k * 2]? = some (.int .i64 (l.getD k default).1) ∧ (l.flatMap encD)[k * 2 + 1]? = some (.int .i64 (l.getD k default).2) := by
  induction l generalizing k with
  | nil => simp at hk
  | cons d l ih =>
    cases k with
    | zero => simp [encD]
    | succ k =>
      have := ih k (by simpa using hk)
      have e1 : (k + 1) * 2 = k * 2 + 2 := by omega
      rw [List.flatMap_cons, e1]
      simp only [encD, List.cons_append, List.nil_append]
      simp only [List.getElem?_cons_succ, List.getD_cons_succ]
      exact this
theorem RdD.len {w : World} {B : Nat} {A : Option Addr} {n : Nat} {l : List (Int × Int)} (h : RdD w B A n l) : l.length = n := by
  have := h.1; rw [flat_length] at this; omega
theorem add_flat (b off n : Nat) : (⟨b, off, none⟩ : Addr).add n = ⟨b, off + n, none⟩ := by
  unfold Addr.add
  split
  · rename_i e; simp [e]
  · rfl
theorem RdD.get {w : World} {B : Nat} {A : Option Addr} {n k : Nat} {l : List (Int × Int)} (h : RdD w B A n l) (hk : k < n) : ∃ b off, A = some ⟨b, off, none⟩ ∧ b < B ∧
    w.cell? ⟨b, off + k * 2, none⟩ = some (.int .i64 (l.getD k default).1) ∧ w.cell? ⟨b, off + k * 2 + 1, none⟩ = some (.int .i64 (l.getD k default).2) := by
  obtain ⟨ad, e, hb, hc⟩ := h.2 (by omega)
  have := flat_get l k (by rw [h.len]; exact hk)
  have c1 := hc _ _ this.1
  have c2 := hc _ _ this.2
  have c0 := hc _ _ (flat_get l 0 (by rw [h.len]; omega)).1
  obtain ⟨b, off, spot⟩ := ad
  have hs : spot = none := by simpa [Addr.add] using World.cell?_spot c0
  subst hs
  rw [add_flat] at c1 c2
  exact ⟨b, off, e, hb, c1, by rw [Nat.add_assoc]; exact c2⟩

end Go.Proofs.YtmhkalalcmkpbaaGreat
