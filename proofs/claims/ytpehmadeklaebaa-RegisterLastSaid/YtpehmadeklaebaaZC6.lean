/-
  C6
-/
import Derived.Test.YtpehmadeklaebaaZC5
import Derived.Laws.Cover3
namespace Go.Proofs.Ytpehmadeklaebaa
open Go Go.RowKit
set_option linter.unusedVariables false
set_option linter.unusedSimpArgs false
section
variable {P : Program} {C : Cx} {Q : Exit → AS → Prop} {f : Nat → AV} {h : List HObj} {ops : Array Oper} {o : Oper} {rest : List Oper}
/-- Is a slice nil? Then it holds nothing. -/
theorem sSlNil {t t' e : TypeId} {x : Operand} {k n d : Nat} {cs : List AV} (hg : o.guard = none) (hd : o.dst = some d) (hN : Nat.blt d C.N = true) (ho : o.op = .binOp .eql t x (.const (.slice none 0 0)) t') (hx : evalT f x = .sl k n cs) (ht : P.underlying t = some (.slice e))
    (kk : ∀ b, (b = true → n * k = 0) → WL none P C ops Q rest ⟨upd f d (.x (.bool b)), h⟩) : WL none P C ops Q (o :: rest) ⟨f, h⟩ := by
  refine ⟨fun a w hs => wpList_plain hg fun K hK => ?_⟩
  have hxe := hs.slots.eval x
  simp only at hxe
  rw [hx] at hxe
  simp only [Rep] at hxe
  obtain ⟨hl, A, c, e1, hnc, hcm, hor⟩ := hxe
  have hrun : (execOp a.eval o).run P w = .ok (.value (.bool A.isNone)) w := by
    have hc : a.eval (.const (.slice none 0 0)) = .slice none 0 0 := rfl
    have := run_equal_slice_nil (P := P) w t e A n c ht
    simp [execOp, ho, e1, hc, eqGuard, binOp, this]
  unfold Oper.wp
  rw [hrun]
  have := kk A.isNone (fun hb => by
    rcases hor with h0 | ⟨ad, rfl, _⟩
    · exact h0
    · cases hb)
  refine hK _ _ (this.run _ _ ⟨hs.env, ?_⟩)
  have := hs.slots.put o.dst (v := .bool A.isNone) (av := .x (.bool A.isNone)) (rep_x.2 rfl)
  rw [hd, putT_upd hN] at this
  rw [hd]; exact this
/-- A slice literal of nothing: a row of the call's own. -/
theorem sBuild0 {t e : TypeId} {k d : Nat} {b : Bool} {zs : List Value} (hg : o.guard = none) (hd : o.dst = some d) (hN : Nat.blt d C.N = true) (ho : o.op = .buildSlice t 0 #[]) (hz : tyZero P e = some zs) (ht : P.underlying t = some (.slice e)) (he : tyOf P e = some (b, k)) (hk : k ≠ 0)
    (kk : ∀ v, WL none P C ops Q rest ⟨upd f d (.x v), h ++ [.row v e k 0 []]⟩) : WL none P C ops Q (o :: rest) ⟨f, h⟩ := by
  refine ⟨fun a w hs => wpList_plain hg fun K hK => ?_⟩
  obtain ⟨z, hz1, hz2⟩ := tyZero_spec hz w
  have hrun : (execOp a.eval o).run P w = .ok (.value (.slice (some ⟨w.heap.size, 0, none⟩) 0 0)) (w.alloc (.cells #[] e)) := by
    have e0 : (Array.range 0 : Array Nat) = #[] := rfl
    simp [execOp, ho, Instr.buildSlice, run_underlying ht, run_sizeOf_ he, hk, hz1, newRow, e0, Instr.fill]
  unfold Oper.wp
  rw [hrun]
  have hn : ∀ c, (HObj.row (.slice (some ⟨w.heap.size, 0, none⟩) 0 0) e k 0 []).blk = some c → w.heap.size ≤ c ∧ c < (w.alloc (.cells #[] e)).heap.size := fun c hc => by
    obtain rfl : w.heap.size = c := by simpa [HObj.blk, Value.ownBlock] using hc
    simp
  have hb := below_alloc1 (K := C.w0.K) w (.cells #[] e)
  refine hK _ _ ((kk _).run _ _ ⟨hs.env.push hb ⟨[], World.ownsRow_lit (base := 0) (e := e) (size := k) w #[] 0 (Nat.zero_le _) (by simp [maxLen]) (by simp), rfl, by simp [RepC]⟩ hn, ?_⟩)
  have := (slots_push hs.env hb hn hs.slots).put o.dst (v := .slice (some ⟨w.heap.size, 0, none⟩) 0 0) (av := .x (.slice (some ⟨w.heap.size, 0, none⟩) 0 0)) (rep_x.2 rfl)
  rw [hd, putT_upd hN] at this
  rw [hd]; exact this
end
end Go.Proofs.Ytpehmadeklaebaa
