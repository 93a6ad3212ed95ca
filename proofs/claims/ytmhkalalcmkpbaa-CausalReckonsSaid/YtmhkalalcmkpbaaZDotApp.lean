/-
  DotApp
-/
import Derived.Test.YtmhkalalcmkpbaaZDotClone
import Derived.Test.YtmhkalalcmkpbaaZTools
import Derived.Deep.Onto
namespace Go.Proofs.Ytmhkalalcmkpbaa
open Go.RowKit
set_option linter.unusedVariables false

theorem OwnD.nil (w : World) (base : Nat) : OwnD w base (.slice none 0 0) [] := World.ownsRow_nil _ _ _ _
/-- append of a slice of names. -/
theorem app_dots {W : World} {base : Nat} {v : Value} {xs ys : List (Int × Int)} {B m c : Nat} {A : Option Addr} (hown : OwnD W base v xs) (hr : RdD W B A m ys) (hn : xs.length + m < 1000000000) (hb : base ≤ W.heap.size)
    {ops : Array Oper} {rest : List Oper} {o : Oper} {a : Act} {Q : Exit → Act → World → Prop} (hgd : o.guard = none) (s y : Operand)
    (ho : o.op = .call { callee := .builtin .append, args := #[s, y], argTypes := #[27, 27] })
    (hs : a.eval s = v) (hy : a.eval y = .slice A m c)
    (h : ∀ v' w', OwnD w' base v' (xs ++ ys) → Below base W w' → wpList Try.prog ops Q rest (a.put o.dst v') w') :
    wpList Try.prog ops Q (o :: rest) a W := by
  obtain ⟨i, hi, hz, hsz, hbb⟩ := info_parts infoDot
  refine wpList_append_any (P := Try.prog) _ hgd s y _ ho base 23 i _ 2 16 sliceDot hi hz hsz hbb rfl (by decide) v xs.length _ hs hown B A m c (ys.flatMap encD) hy hr (enc_one _) ?_ ?_ hb ?_
  · simp only [maxLen]; omega
  · omega
  · intro v' w' h1 h2 _
    refine h v' w' ?_ (below_app (Below.refl _ _ |>.mono hb) hown (Nat.le_refl _) hb h2)
    show World.ownsRow _ _ _ _ _ _ _
    rw [List.length_append, hr.len, List.flatMap_append]
    exact h1
/-- append of one name. -/
theorem app_dot1 {W : World} {base : Nat} {v : Value} {xs : List (Int × Int)} (d1 d2 : Int) (hown : OwnD W base v xs) (hn : xs.length < 999999999) (hb : base ≤ W.heap.size)
    {ops : Array Oper} {rest : List Oper} {o : Oper} {a : Act} {Q : Exit → Act → World → Prop} (hgd : o.guard = none) (s y : Operand)
    (ho : o.op = .call { callee := .builtin .append, args := #[s, y], argTypes := #[27, 27] })
    (hs : a.eval s = v) (hy : a.eval y = .slice (some ⟨W.heap.size, 0, none⟩) 1 1)
    (h : ∀ v' w', OwnD w' base v' (xs ++ [(d1, d2)]) → Below base W w' → wpList Try.prog ops Q rest (a.put o.dst v') w') :
    wpList Try.prog ops Q (o :: rest) a (W.alloc (.cells #[.int .i64 d1, .int .i64 d2] 23)) := by
  have hB : Below base W (W.alloc (.cells #[.int .i64 d1, .int .i64 d2] 23)) := ((Below.refl base W)).alloc hb _
  have hr : RdD (W.alloc (.cells #[.int .i64 d1, .int .i64 d2] 23)) (W.alloc (.cells #[.int .i64 d1, .int .i64 d2] 23)).heap.size (some ⟨W.heap.size, 0, none⟩) 1 [(d1, d2)] := reads_new W 2 1 [.int .i64 d1, .int .i64 d2] 23 rfl
  refine app_dots (hown.alloc _) hr (by omega) (by simp; omega) hgd s y ho hs hy ?_
  intro v' w' h1 h2
  exact h v' w' h1 (hB.trans h2)
end Go.Proofs.Ytmhkalalcmkpbaa
