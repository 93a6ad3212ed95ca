/-
  append of one element, at whatever one-cell element type: the walk's law.
-/
import Derived.Test.YtkmmphcmkmacpaaMem
import Derived.OpenShut
namespace Go.Proofs.Ytkmmphcmkmacpaa
open Go.RowKit
set_option linter.unusedVariables false

theorem app_one {P : Program} {t e : TypeId} {z : Value} {bytes : Nat} (ht : P.underlying t = some (.slice e)) (hinfo : (P.info? e).map (fun i => (i.zero, i.size, i.bytes)) = some (some z, 1, bytes)) (hz1 : z.cells.size = 1) (hby : bytes ≤ 24)
    {W : World} {base : Nat} {v : Value} {n : Nat} {xs : List Value} (u : Value) (hu : u.oneCell' = true) (hown : W.ownsRow base e 1 v n xs) (hl : n < 1152921504606) (hb : base ≤ W.heap.size)
    {ops : Array Oper} {rest : List Oper} {o : Oper} {a : Act} {Q : Exit → Act → World → Prop} (hgd : o.guard = none) (s y : Operand)
    (ho : o.op = .call { callee := .builtin .append, args := #[s, y], argTypes := #[t, t] })
    (hs : a.eval s = v) (hy : a.eval y = .slice (some ⟨W.heap.size, 0, none⟩) 1 1)
    (h : ∀ v' w', w'.ownsRow base e 1 v' (n + 1) (xs ++ [u]) → W.grownBy w' v.ownBlock → wpList P ops Q rest (a.put o.dst v') w') :
    wpList P ops Q (o :: rest) a (W.alloc (.cells #[u] e)) := by
  obtain ⟨i, hi, hz, hsz, hbb⟩ := info_parts hinfo
  refine wpList_append_own (P := P) _ hgd s y t ho base e i z 1 bytes ht hi hz hsz hbb hz1 (by decide) v n xs hs (hown.alloc _) ⟨W.heap.size, 0, none⟩ 1 1 [u] hy rfl ?_ ?_ ?_ ?_ ?_ ?_
  · intro j x hj
    cases j with
    | zero => obtain rfl : u = x := by simpa using hj
              show (W.alloc _).cell? ⟨W.heap.size, 0, none⟩ = _
              simp
    | succ j => simp at hj
  · intro x hx; obtain rfl : x = u := by simpa using hx
    exact hu
  · simp only [maxLen]; omega
  · have : (n + 1) * bytes ≤ (n + 1) * 24 := Nat.mul_le_mul_left _ hby
    omega
  · simp; omega
  · intro v' w' h1 h2 _
    exact h v' w' h1 ⟨h2.os, h2.tape, h2.output, by have := h2.size; simp at this; omega, fun k hk hne => (h2.block k (by simp; omega) hne).trans (Below.heap_alloc _ _ k hk)⟩

/-- What an append leaves below the call's own blocks. -/
theorem below_app {B : Nat} {w0 W w' : World} {e : TypeId} {base n size : Nat} {v : Value} {xs : List Value} (hB : Below B w0 W) (hown : W.ownsRow base e size v n xs) (hbase : B ≤ base) (hb : base ≤ W.heap.size) (hg : W.grownBy w' v.ownBlock) : Below B w0 w' :=
  hB.grown hg (by omega) (fun k hk => by have := (hown.lt k hk).1; omega)
end Go.Proofs.Ytkmmphcmkmacpaa
