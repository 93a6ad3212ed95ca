/-
  C7
-/
import Derived.Test.YtmhkalalcmkpbaaZC6
namespace Go.Proofs.Ytmhkalalcmkpbaa
open Go Go.RowKit
set_option linter.unusedVariables false
section
variable {m : Option (List Oper)} {P : Program} {C : Cx} {Q : Exit → AS → Prop} {f : Nat → AV} {h : List HObj} {ops : Array Oper} {o : Oper} {rest : List Oper}
theorem sUx {d j t : Nat} {b b' : Bool} (hg : o.guard = some (j, b)) (hj : (ops[j]?).bind (·.dst) = some t) (ht : f t = .x (.bool b')) (hb : b' ≠ b) (hd : o.dst = some d) (hN : Nat.blt d C.N = true) (k : WL m P C ops Q rest ⟨upd f d (.x undef), h⟩) : WL m P C ops Q (o :: rest) ⟨f, h⟩ := by
  cases m with
  | none =>
    exact ⟨by
      intro a w hs
      have h1 := hs.slots.slot t
      simp only at h1
      rw [ht, rep_x] at h1
      have hw : Region.wanted o (yielded ops a.tmps) = false := by
        have : yielded ops a.tmps j = some b' := yield_bool hj h1
        simp [Region.wanted, hg, this, hb]
      refine wpList_step fun K hK => ?_
      rw [hw]
      refine hK _ _ (k.run _ _ ⟨hs.env, ?_⟩)
      have := hs.slots.put o.dst (v := undef) (av := .x undef) (rep_x.2 rfl)
      rw [hd, putT_upd hN] at this
      rw [hd]; exact this⟩
  | some tail =>
    refine ⟨chain_unwantedx hg hj ht hb ?_⟩
    rw [hd, putT_upd hN]; exact k.run
theorem sNx {d j t : Nat} {b : Bool} (hg : o.guard = some (j, b)) (hj : (ops[j]?).bind (·.dst) = some t) (ht : f t = .x undef) (hd : o.dst = some d) (hN : Nat.blt d C.N = true) (k : WL m P C ops Q rest ⟨upd f d (.x undef), h⟩) : WL m P C ops Q (o :: rest) ⟨f, h⟩ := by
  cases m with
  | none =>
    exact ⟨by
      intro a w hs
      have h1 := hs.slots.slot t
      simp only at h1
      rw [ht, rep_x] at h1
      have hw : Region.wanted o (yielded ops a.tmps) = false := by
        have : yielded ops a.tmps j = none := by
          unfold yielded
          rw [hj]
          show (match a.tmps[t]? with | some (.bool b) => some b | _ => none) = none
          rw [Array.getD_eq_getD_getElem?] at h1
          cases hh : a.tmps[t]? with
          | none => rfl
          | some v => rw [hh] at h1; obtain rfl : v = undef := h1; rfl
        simp [Region.wanted, hg, this]
      refine wpList_step fun K hK => ?_
      rw [hw]
      refine hK _ _ (k.run _ _ ⟨hs.env, ?_⟩)
      have := hs.slots.put o.dst (v := undef) (av := .x undef) (rep_x.2 rfl)
      rw [hd, putT_upd hN] at this
      rw [hd]; exact this⟩
  | some tail =>
    refine ⟨chain_nonex hg hj ht ?_⟩
    rw [hd, putT_upd hN]; exact k.run
end
end Go.Proofs.Ytmhkalalcmkpbaa
