/-
  Eq Fr
-/
import Derived.Test.YtmhkalalcmkpbaaZFacB
import Derived.Test.YtmhkalalcmkpbaaZFo2
import Derived.Laws.StructEq
namespace Go.Proofs.Ytmhkalalcmkpbaa
open Go Go.RowKit
set_option linter.unusedVariables false
set_option linter.unusedSimpArgs false

section
variable {P : Program} {K : Prop} {N : Nat} {X : Nat → Prop} {h : List HObj} {f : Nat → AV} {o : Oper}
theorem p_eqs {t t' : TypeId} {x y : Operand} {cs ds : List AV} {r : Bool} (ho : o.op = .binOp .eql t x y t') (hx : evalT f x = .agg cs) (hy : evalT f y = .agg ds) (h1 : AV.exL cs = true) (h2 : AV.exL ds = true) (hg : P.eqGuardType P.depth t = false)
    (heq : ∀ w, (Op.equalIn 10000 t (.agg (AV.vals cs).toArray) (.agg (AV.vals ds).toArray)).run P w = .ok r w) : PureOp P K N X h f o (.x (.bool r)) := pure_run fun ac w w0 env H => by
  rw [ho] at H
  have g1 := H x (by simp [Op.operands])
  have g2 := H y (by simp [Op.operands])
  rw [hx, AV.rep_val _ (by simpa only [AV.ex] using h1)] at g1
  rw [hy, AV.rep_val _ (by simpa only [AV.ex] using h2)] at g2
  simp only [AV.val] at g1 g2
  refine ⟨.bool r, ?_, rep_x.2 rfl⟩
  simp [execOp, ho, g1, g2, eqGuard, hg, binOp, Op.equal, Op.maxDepth, heq]
theorem p_nes {t t' : TypeId} {x y : Operand} {cs ds : List AV} {r : Bool} (ho : o.op = .binOp .neq t x y t') (hx : evalT f x = .agg cs) (hy : evalT f y = .agg ds) (h1 : AV.exL cs = true) (h2 : AV.exL ds = true) (hg : P.eqGuardType P.depth t = false)
    (heq : ∀ w, (Op.equalIn 10000 t (.agg (AV.vals cs).toArray) (.agg (AV.vals ds).toArray)).run P w = .ok r w) : PureOp P K N X h f o (.x (.bool !r)) := pure_run fun ac w w0 env H => by
  rw [ho] at H
  have g1 := H x (by simp [Op.operands])
  have g2 := H y (by simp [Op.operands])
  rw [hx, AV.rep_val _ (by simpa only [AV.ex] using h1)] at g1
  rw [hy, AV.rep_val _ (by simpa only [AV.ex] using h2)] at g2
  simp only [AV.val] at g1 g2
  refine ⟨.bool !r, ?_, rep_x.2 rfl⟩
  simp [execOp, ho, g1, g2, eqGuard, hg, binOp, Op.equal, Op.maxDepth, heq]
end

theorem eqD (d : Nat) (w : World) (a b : Int × Int) : (Op.equalIn (d + 2) 23 (.agg #[.int .i64 a.1, .int .i64 a.2]) (.agg #[.int .i64 b.1, .int .i64 b.2])).run Try.prog w = .ok (decide (a = b)) w := by
  obtain ⟨a1, a2⟩ := a
  obtain ⟨b1, b2⟩ := b
  rw [run_equalIn_struct w (d + 1) _ _ _ (by kernel_rfl) (by kernel_rfl)]
  go_simp
  by_cases h1 : a1 = b1 <;> by_cases h2 : a2 = b2 <;> simp [h1, h2]
theorem eqW (d : Nat) (w : World) (a b : Int × Int × Int) : (Op.equalIn (d + 2) 25 (.agg #[.int .i64 a.1, .int .i64 a.2.1, .int .i64 a.2.2]) (.agg #[.int .i64 b.1, .int .i64 b.2.1, .int .i64 b.2.2])).run Try.prog w = .ok (decide (a = b)) w := by
  obtain ⟨a1, a2, a3⟩ := a
  obtain ⟨b1, b2, b3⟩ := b
  rw [run_equalIn_struct w (d + 1) _ _ _ (by kernel_rfl) (by kernel_rfl)]
  go_simp
  by_cases h1 : a1 = b1 <;> by_cases h2 : a2 = b2 <;> by_cases h3 : a3 = b3 <;> simp [h1, h2, h3]
theorem guardD : Try.prog.eqGuardType Try.prog.depth 23 = false := by kernel_rfl
theorem guardF : Try.prog.eqGuardType Try.prog.depth 87 = false := by kernel_rfl
theorem eqF (w : World) (x y : FactT) : (Op.equalIn 10000 87 (.agg (AV.vals (encF x)).toArray) (.agg (AV.vals (encF y)).toArray)).run Try.prog w = .ok (decide (x = y)) w := by
  obtain ⟨⟨x1, x2⟩, ⟨x3, x4, x5⟩, x6, x7, x8⟩ := x
  obtain ⟨⟨y1, y2⟩, ⟨y3, y4, y5⟩, y6, y7, y8⟩ := y
  show (Op.equalIn 10000 87 (.agg #[.int .i64 x1, .int .i64 x2, .int .i64 x3, .int .i64 x4, .int .i64 x5, .int .i64 x6, .string x7, .string x8]) (.agg #[.int .i64 y1, .int .i64 y2, .int .i64 y3, .int .i64 y4, .int .i64 y5, .int .i64 y6, .string y7, .string y8])).run Try.prog w = _
  have e1 := eqD 9997 w (x1, x2) (y1, y2)
  have e2 := eqW 9997 w (x3, x4, x5) (y3, y4, y5)
  rw [run_equalIn_struct w 9999 _ _ _ (by kernel_rfl) (by kernel_rfl)]
  go_simp
  have ts : ∀ a b : ByteArray, (a.toList = b.toList) = (a = b) := fun a b => propext ⟨ba_toList_inj, fun e => by rw [e]⟩
  simp only [ts]
  by_cases h1 : x1 = y1
  · by_cases h2 : x2 = y2
    · by_cases h3 : x3 = y3
      · by_cases h4 : x4 = y4
        · by_cases h5 : x5 = y5
          · by_cases h6 : x6 = y6
            · by_cases h7 : x7 = y7
              · by_cases h8 : x8 = y8 <;> simp [h1, h2, h3, h4, h5, h6, h7, h8]
              · simp [h1, h2, h3, h4, h5, h6, h7]
            · simp [h1, h2, h3, h4, h5, h6]
          · simp [h1, h2, h3, h4, h5]
        · simp [h1, h2, h3, h4]
      · simp [h1, h2, h3]
    · simp [h1, h2]
  · simp [h1]

end Go.Proofs.Ytmhkalalcmkpbaa

namespace Go.Proofs.Ytmhkalalcmkpbaa
open Go Go.RowKit
set_option linter.unusedVariables false
set_option linter.unusedSimpArgs false

end Go.Proofs.Ytmhkalalcmkpbaa
