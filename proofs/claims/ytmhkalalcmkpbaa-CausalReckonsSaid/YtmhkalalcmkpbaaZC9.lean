/-
  C9
-/
import Derived.Test.YtmhkalalcmkpbaaZC8
namespace Go.Proofs.Ytmhkalalcmkpbaa
open Go Go.RowKit
set_option linter.unusedVariables false
set_option linter.unusedSimpArgs false
section
variable {P : Program} {C : Cx} {Q : Exit → AS → Prop} {s : AS} {ops : Array Oper} {rest : List Oper}
theorem row_rep {i : Nat} {v : Value} {e : TypeId} {k n : Nat} {cs : List AV} {a : Act} {w : World} (hi : s.h[i]? = some (.row v e k n cs)) (hs : C.St s a w) : Rep (owned C.X (s.h.set i .dead)) w (.sl k n cs) v := by
  have hg : w.grownBy w (HObj.row v e k n cs).blk := World.grownBy.refl _ _
  have hq : ∀ b, HObj.dead.blk = some b → (HObj.row v e k n cs).blk = some b ∨ w.heap.size ≤ b := fun b hb => by cases hb
  obtain ⟨vs, h2, h3, h4⟩ := hs.env.objs _ (List.mem_of_getElem? hi)
  simp only [Rep]
  refine ⟨by rw [← h3]; exact h2.1, ?_⟩
  rcases h2.2 with ⟨rfl, rfl⟩ | ⟨g, cap, cur, rfl, hb, hh, hn, hc, hsz, htk⟩
  · exact ⟨none, 0, rfl, Nat.le_refl _, by omega, .inl (by simp)⟩
  · simp only [maxLen] at hc
    refine ⟨_, cap, rfl, hn, hc, .inr ⟨_, rfl, (Array.getElem?_eq_some_iff.1 hh).1, ?_, ?_⟩⟩
    · rintro (hx | ⟨o, ho, hob⟩)
      · have h5 := hs.env.ext _ hx
        have h6 := hs.env.new _ (List.mem_of_getElem? hi) g rfl
        simp only at h5
        rcases h6 with h6 | h6
        · omega
        · exact h5.2 h6
      · obtain ⟨j, hj⟩ := List.mem_iff_getElem?.1 ho
        rw [List.getElem?_set] at hj
        split at hj
        · split at hj
          · obtain rfl : HObj.dead = o := by simpa using hj
            cases hob
          · cases hj
        · rename_i hne
          exact hne (hs.env.apart i j _ o g hi hj rfl hob)
    · have h5 := RepC.mono (Kept.refl _ w) (owned_set (q := .dead) hi hs.env hq) _ _ h4
      refine RepC.mk fun j c hj => ?_
      obtain ⟨u', hu', hr⟩ := h5.at_ j c hj
      exact ⟨u', h2.cells (g := g) rfl j u' hu', hr⟩
theorem st_freezeA {i t j : Nat} {v : Value} {e : TypeId} {k n : Nat} {cs ys : List AV} {a : Act} {w : World} (hi : s.h[i]? = some (.row v e k n cs)) (ht : s.t t = .agg ys) (hj : ys[j]? = some (.x v)) (hs : C.St s a w) : C.St ⟨upd s.t t (.agg (ys.set j (.sl k n cs))), s.h.set i .dead⟩ a w := by
  have hg : w.grownBy w (HObj.row v e k n cs).blk := World.grownBy.refl _ _
  have hq : ∀ b, HObj.dead.blk = some b → (HObj.row v e k n cs).blk = some b ∨ w.heap.size ≤ b := fun b hb => by cases hb
  have env2 := hs.env.set_ (q := .dead) hi hg (fun _ => Nat.le_refl _) trivial hq (fun b hb => by cases hb)
  have sl2 := slots_set (q := .dead) hs.env hi hg hq hs.slots
  have hrow := row_rep hi hs
  refine ⟨env2, sl2.defers, sl2.size, fun u => ?_⟩
  by_cases hu : u = t
  · subst hu
    show Rep _ _ (upd s.t u (.agg (ys.set j (.sl k n cs))) u) _
    rw [upd_same]
    have h1 := sl2.slot u
    rw [ht] at h1
    simp only [Rep] at h1
    obtain ⟨us, e1, e2, e3⟩ := h1
    rw [e1]
    rw [Rep]
    refine ⟨us, rfl, by rw [List.length_set]; exact e2, RepC.mk fun j' c hc => ?_⟩
    rw [List.getElem?_set] at hc
    by_cases hjj : j = j'
    · subst hjj
      rw [if_pos rfl] at hc
      obtain ⟨u', hu', hr⟩ := e3.at_ j _ hj
      rw [rep_x] at hr
      subst hr
      split at hc
      · injection hc with hc
        subst hc
        exact ⟨u', hu', hrow⟩
      · cases hc
    · rw [if_neg hjj] at hc
      exact e3.at_ j' c hc
  · show Rep _ _ (upd s.t t _ u) _
    rw [upd_ne _ _ hu]
    exact sl2.slot u
end
section
variable {P : Program} {C : Cx} {Q : Exit → AS → Prop} {f : Nat → AV} {h : List HObj} {ops : Array Oper} {rest : List Oper}
theorem sFreezeA (i t j : Nat) {v : Value} {e : TypeId} {k n : Nat} {cs ys : List AV} (hi : h[i]? = some (.row v e k n cs)) (ht : f t = .agg ys) (hj : ys[j]? = some (.x v)) (kk : WL none P C ops Q rest ⟨upd f t (.agg (ys.set j (.sl k n cs))), h.set i .dead⟩) : WL none P C ops Q rest ⟨f, h⟩ :=
  ⟨fun a w hs => kk.run a w (st_freezeA (s := ⟨f, h⟩) hi ht hj hs)⟩
theorem sStoreRow {T : TypeId} {x y : Operand} {g off : Nat} (i j : Nat) {T' : TypeId} {cs : List AV} {b : Bool} {o : Oper} {v : Value} {e : TypeId} {k n : Nat} {rs : List AV} (hg : o.guard = none) (hd : o.dst = none) (ho : o.op = .store T x y) (hx : evalT f x = .x (.pointer (some ⟨g, off, none⟩))) (hi : h[i]? = some (.cells g T' cs)) (hj : h[j]? = some (.row v e k n rs)) (ht : tyOf P T = some (b, 1))
    (hy : evalT f y = .x v) (hoff : off < cs.length) (kk : WL none P C ops Q rest ⟨f, h.set i (.cells g T' (cs.set off (.x v)))⟩) : WL none P C ops Q (o :: rest) ⟨f, h⟩ := ⟨fun a w hs => by
  have h1 : v.oneCell' = true := by
    obtain ⟨vs, h2, _⟩ := hs.env.objs _ (List.mem_of_getElem? hj)
    rcases h2.2 with ⟨rfl, _⟩ | ⟨g, cap, cur, rfl, _⟩ <;> rfl
  exact (sStore1 i hg hd ho hx hi ht hy (show (AV.x v).one = true from h1) hoff kk).run a w hs⟩
end
end Go.Proofs.Ytmhkalalcmkpbaa
