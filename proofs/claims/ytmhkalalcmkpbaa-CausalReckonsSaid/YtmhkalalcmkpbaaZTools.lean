/-
  Tools
-/
import Derived.Test.YtmhkalalcmkpbaaZMem2
import Derived.Lib.Hide
import Derived.StillTailTactics
namespace Go.Proofs.Ytmhkalalcmkpbaa
open Go.RowKit
set_option linter.unusedVariables false
/-- What stands behind a region, behind a name: so that nothing looks into it. -/
theorem wpStill_hold {P : Program} {ops : Array Oper} {w : World} {Q : Act → Prop} {l : List Oper} {a : Act} (h : ∀ Q' : Act → Prop, Hid (∀ a, Q a → Q' a) → wpStill P ops w Q' l a) : wpStill P ops w Q l a := h Q (fun _ h => h)
theorem grown_of_below {w w' : World} (h : Below w.heap.size w w') (row : Option Nat) : w.grownBy w' row := ⟨h.os, h.tape, h.output, h.size, fun i hi _ => h.block i hi⟩
theorem own_below {w w' : World} {base : Nat} {e : TypeId} {size : Nat} {v : Value} {n : Nat} {xs : List Value} (h : w.ownsRow base e size v n xs) (hb : Below w.heap.size w w') : w'.ownsRow base e size v n xs :=
  h.kept (grown_of_below hb none) (by cases v.ownBlock <;> simp)
/-- A block of the call's own, just made, reads as what was put in. -/
theorem reads_new (w : World) (k n : Nat) (vs : List Value) (T : TypeId) (hl : vs.length = n * k) : Reads (w.alloc (.cells vs.toArray T)) (w.alloc (.cells vs.toArray T)).heap.size k (some ⟨w.heap.size, 0, none⟩) n vs := by
  refine ⟨hl, fun _ => ⟨_, rfl, by simp, fun j u hj => ?_⟩⟩
  have hjl : j < vs.length := by
    rcases Nat.lt_or_ge j vs.length with g | g
    · exact g
    · rw [List.getElem?_eq_none g] at hj; cases hj
  have e : (⟨w.heap.size, 0, none⟩ : Addr).add j = ⟨w.heap.size, j, none⟩ := by
    unfold Addr.add
    split
    · rename_i h; rw [h]
    · simp
  rw [e]
  rw [List.getElem?_eq_getElem hjl] at hj
  injection hj with hj
  simp [hjl, hj]
theorem below_of_grown {B : Nat} {w w' : World} {g : Nat} (h : w.grownBy w' (some g)) (hB : B ≤ w.heap.size) (hg : B ≤ g) : Below B w w' :=
  ⟨h.os, h.tape, h.output, h.size, fun k hk => h.block k (by omega) (by intro e; injection e with e; omega)⟩
theorem own_grown {w w' : World} {base p : Nat} {e : TypeId} {size : Nat} {v : Value} {n : Nat} {xs : List Value} (h : w.ownsRow base e size v n xs) (hg : w.grownBy w' (some p)) (hp : p < base) : w'.ownsRow base e size v n xs :=
  h.kept hg (by
    cases hv : v.ownBlock with
    | none => exact .inl rfl
    | some k => exact .inr (by intro e; injection e with e; have := (h.lt k hv).1; omega))
/-- A slice's length. -/
def lenV : Value → Nat
  | .slice _ n _ => n
  | _ => 0
theorem own_lenV {w : World} {base : Nat} {e : TypeId} {size : Nat} {v : Value} {n : Nat} {xs : List Value} (h : w.ownsRow base e size v n xs) : lenV v = n := by
  rcases h.2 with ⟨rfl, hx2⟩ | ⟨g, cap, cur, rfl, _⟩
  · exact hx2.symm
  · rfl
/-- Below, in a form that is not taken apart. -/
def KB (w W : World) : Prop := (Below w.heap.size w W) = True
theorem KB.mk {w W : World} (h : Below w.heap.size w W) : KB w W := eq_true h
theorem KB.out {w W : World} (h : KB w W) : Below w.heap.size w W := of_eq_true h
theorem KB.call {w W W' : World} (hb : Below W.heap.size W W') (h : KB w W) : KB w W' := .mk (h.out.trans (hb.mono h.out.size))
theorem KB.drew {w W : World} (h : KB w W) : KB w W.drew := .mk (below_drewN h.out 1)
theorem KB.drewN {w W : World} (h : KB w W) (q : Nat) : KB w (W.drewN q) := .mk (below_drewN h.out q)
theorem KB.alloc {w W : World} (h : KB w W) (o : Obj) : KB w (W.alloc o) := .mk (h.out.alloc h.out.size o)
end Go.Proofs.Ytmhkalalcmkpbaa
