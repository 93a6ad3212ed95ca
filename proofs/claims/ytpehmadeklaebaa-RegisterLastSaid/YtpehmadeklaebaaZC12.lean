/-
  C10 C12
-/
import Derived.Test.YtpehmadeklaebaaZC11
import Derived.Test.YtpehmadeklaebaaZC9
namespace Go.Proofs.Ytpehmadeklaebaa
open Go Go.RowKit
set_option linter.unusedVariables false
set_option linter.unusedSimpArgs false
section
variable {P : Program} {C : Cx} {Q : Exit → AS → Prop} {s : AS} {ops : Array Oper} {rest : List Oper}
end
section
variable {P : Program} {C : Cx} {Q : Exit → AS → Prop} {f : Nat → AV} {h : List HObj} {ops : Array Oper} {rest : List Oper}
end
section
variable {P : Program} {K : Prop} {N : Nat} {X : Nat → Prop} {h : List HObj} {f : Nat → AV} {o : Oper}
end
end Go.Proofs.Ytpehmadeklaebaa

namespace Go.Proofs.Ytpehmadeklaebaa
open Go Go.RowKit
set_option linter.unusedVariables false
set_option linter.unusedSimpArgs false
section
variable {P : Program} {C : Cx} {Q : Exit → AS → Prop} {f : Nat → AV} {h : List HObj} {s : AS}
theorem env_subC {X : Nat → Prop} {w0 : Orig} {h : List HObj} {w : World} {i g : Nat} {T : TypeId} {cs cs' : List AV} (hi : h[i]? = some (.cells g T cs)) (hsub : SubL cs cs') (env : Env X w0 h w) : Env X w0 (h.set i (.cells g T cs')) w := by
  have hm := List.mem_of_getElem? hi
  have hb : (h.set i (.cells g T cs')).map HObj.blk = h.map HObj.blk := by
    rw [List.map_set]
    apply List.ext_getElem?
    intro j
    rw [List.getElem?_set]
    split
    · rename_i e
      subst e
      split
      · rw [List.getElem?_map, hi]; rfl
      · rename_i g2
        rw [List.getElem?_map]
        rw [List.length_map] at g2
        rw [List.getElem?_eq_none (by omega)]; rfl
    · rfl
  have ho : owned X (h.set i (.cells g T cs')) = owned X h := owned_map hb
  have mem : ∀ o ∈ h.set i (.cells g T cs'), o ∈ h ∨ o = .cells g T cs' := fun o ho => List.mem_or_eq_of_mem_set ho
  have hobj : ∀ o ∈ h.set i (.cells g T cs'), ∀ b, o.blk = some b → ∃ p ∈ h, p.blk = some b := fun o ho b hb => by
    rcases mem o ho with h1 | rfl
    · exact ⟨o, h1, hb⟩
    · exact ⟨_, hm, hb⟩
  refine ⟨env.below, fun o hoo => ?_, fun o hoo b hb => ?_, fun o hoo b hb => ?_, env.ext, fun j k o p b hj hk hob hpb => ?_⟩
  · rw [ho]
    rcases mem o hoo with h1 | rfl
    · exact env.objs o h1
    · obtain ⟨us, h1, h2, h3⟩ := env.objs _ hm
      exact ⟨us, h1, by rw [h2, hsub.len], hsub.repC h3⟩
  · obtain ⟨p, hp, hpb⟩ := hobj o hoo b hb
    exact env.new p hp b hpb
  · obtain ⟨p, hp, hpb⟩ := hobj o hoo b hb
    exact env.lt p hp b hpb
  · have at_ : ∀ (j : Nat) (o : HObj), (h.set i (.cells g T cs'))[j]? = some o → o.blk = some b → ∃ p : HObj, h[j]? = some p ∧ p.blk = some b := fun j o hj hob => by
      rw [List.getElem?_set] at hj
      split at hj
      · rename_i e
        subst e
        split at hj
        · injection hj with hj; subst hj; exact ⟨_, hi, hob⟩
        · cases hj
      · exact ⟨o, hj, hob⟩
    obtain ⟨o1, h1, h2⟩ := at_ j o hj hob
    obtain ⟨o2, h3, h4⟩ := at_ k p hk hpb
    exact env.apart j k o1 o2 b h1 h3 h2 h4
theorem st_subC {i g : Nat} {T : TypeId} {cs cs' : List AV} {a : Act} {w : World} (hi : s.h[i]? = some (.cells g T cs)) (hsub : SubL cs cs') (hs : C.St s a w) : C.St ⟨s.t, s.h.set i (.cells g T cs')⟩ a w := by
  have ho : owned C.X (s.h.set i (.cells g T cs')) = owned C.X s.h := owned_map (by
    rw [List.map_set]
    apply List.ext_getElem?
    intro j
    rw [List.getElem?_set]
    split
    · rename_i e
      subst e
      split
      · rw [List.getElem?_map, hi]; rfl
      · rename_i g2
        rw [List.getElem?_map]
        rw [List.length_map] at g2
        rw [List.getElem?_eq_none (by omega)]; rfl
    · rfl)
  refine ⟨env_subC hi hsub hs.env, hs.slots.defers, hs.slots.size, fun u => ?_⟩
  show Rep (owned C.X (s.h.set i (.cells g T cs'))) _ _ _
  rw [ho]
  exact hs.slots.slot u
end
end Go.Proofs.Ytpehmadeklaebaa
