/-
  C5
-/
import Derived.Test.YtpehmadeklaebaaZC4
namespace Go.Proofs.Ytpehmadeklaebaa
open Go Go.RowKit
set_option linter.unusedVariables false
set_option linter.unusedSimpArgs false

theorem grown_refl (w : World) (r : Option Nat) : w.grownBy w r := ⟨rfl, rfl, rfl, Nat.le_refl _, fun _ _ _ => rfl⟩

section
variable {P : Program} {C : Cx} {Q : Exit → AS → Prop} {s : AS} {ops : Array Oper} {o : Oper} {rest : List Oper}
/-- A row as a block of cells. -/
theorem st_rowcells {i : Nat} {v : Value} {e : TypeId} {k n : Nat} {cs : List AV} {a : Act} {w : World} (hi : s.h[i]? = some (.row v e k n cs)) (hn : 0 < n) (hs : C.St s a w) :
    ∃ g cap, v = .slice (some ⟨g, 0, none⟩) n cap ∧ n ≤ cap ∧ cap ≤ maxLen ∧ C.St ⟨s.t, s.h.set i (.cells g e (cs ++ List.replicate (cap * k - n * k) .any))⟩ a w := by
  obtain ⟨vs, hown, hvl, hvr⟩ := hs.env.objs _ (List.mem_of_getElem? hi)
  rcases hown.2 with ⟨rfl, h0⟩ | ⟨g, cap, cur, rfl, hb, hh, hnc, hcm, hsz, htk⟩
  · omega
  have hq : ∀ b, (HObj.cells g e (cs ++ List.replicate (cap * k - n * k) .any)).blk = some b → (HObj.row (.slice (some ⟨g, 0, none⟩) n cap) e k n cs).blk = some b ∨ w.heap.size ≤ b := fun b hb => .inl hb
  have hgr := grown_refl w (HObj.row (.slice (some ⟨g, 0, none⟩) n cap) e k n cs).blk
  have hO := owned_set hi hs.env hq
  have hlt := (Array.getElem?_eq_some_iff.1 hh).1
  have hle : n * k ≤ cap * k := Nat.mul_le_mul_right k hnc
  refine ⟨g, cap, rfl, hnc, hcm, hs.env.set_ hi hgr (fun _ => Nat.le_refl _) ⟨cur, hh, ?_, ?_⟩ hq (fun b hb => ?_), slots_set hs.env hi hgr hq hs.slots⟩
  · rw [List.length_append, List.length_replicate, ← hvl, hown.1, hsz]; omega
  · have h1 := RepC.mono (Kept.refl _ w) hO _ _ hvr
    refine RepC.mk fun j c hj => ?_
    rw [List.getElem?_append] at hj
    split at hj
    · obtain ⟨u, hu, hr⟩ := h1.at_ j c hj
      refine ⟨u, ?_, hr⟩
      rw [← htk, List.getElem?_take] at hu
      split at hu
      · rw [Array.getElem?_toList] at hu; exact hu
      · cases hu
    · rename_i hge
      rw [List.getElem?_replicate] at hj
      split at hj
      · rename_i hlt2
        obtain rfl : AV.any = c := by simpa using hj
        have hjs : j < cur.size := by rw [hsz]; have := hown.1; omega
        exact ⟨cur[j], by simp [hjs], by simp only [Rep]⟩
      · cases hj
  · obtain rfl : g = b := by simpa [HObj.blk] using hb
    exact hlt
/-- A block of cells as a row. -/
theorem st_cellsrow {i g cap : Nat} {e : TypeId} {k m : Nat} {cs : List AV} {a : Act} {w : World} (hi : s.h[i]? = some (.cells g e cs)) (hm : m ≤ cap) (hc : cap ≤ maxLen) (hl : cs.length = cap * k) (hs : C.St s a w) :
    C.St ⟨s.t, s.h.set i (.row (.slice (some ⟨g, 0, none⟩) m cap) e k m (cs.take (m * k)))⟩ a w := by
  obtain ⟨us, hh, hul, hur⟩ := hs.env.objs _ (List.mem_of_getElem? hi)
  have hq : ∀ b, (HObj.row (.slice (some ⟨g, 0, none⟩) m cap) e k m (cs.take (m * k))).blk = some b → (HObj.cells g e cs).blk = some b ∨ w.heap.size ≤ b := fun b hb => .inl hb
  have hgr := grown_refl w (HObj.cells g e cs).blk
  have hO := owned_set hi hs.env hq
  have hle : m * k ≤ cap * k := Nat.mul_le_mul_right k hm
  refine ⟨hs.env.set_ hi hgr (fun _ => Nat.le_refl _) ⟨us.toList.take (m * k), ⟨?_, .inr ⟨g, cap, us, rfl, Nat.zero_le _, hh, hm, hc, by rw [hul, hl], rfl⟩⟩, ?_, ?_⟩ hq (fun b hb => ?_), slots_set hs.env hi hgr hq hs.slots⟩
  · rw [List.length_take, Array.length_toList, hul, hl]; omega
  · rw [List.length_take, List.length_take, Array.length_toList, hul]
  · refine RepC.mk fun j c hj => ?_
    rw [List.getElem?_take] at hj
    split at hj
    · rename_i hlt
      obtain ⟨u, hu, hr⟩ := (RepC.mono (Kept.refl _ w) hO _ _ hur).at_ j c hj
      exact ⟨u, by rw [List.getElem?_take, if_pos hlt, Array.getElem?_toList]; exact hu, hr⟩
    · cases hj
  · obtain rfl : g = b := by simpa [HObj.blk, Value.ownBlock] using hb
    exact (Array.getElem?_eq_some_iff.1 hh).1
end
section
variable {P : Program} {C : Cx} {Q : Exit → AS → Prop} {f : Nat → AV} {h : List HObj} {ops : Array Oper} {o : Oper} {rest : List Oper}
/-- clear, of cells of the call's own. -/
theorem sClear {x : Operand} {t e : TypeId} {g off m c k : Nat} {zs : List Value} {T : TypeId} {cs : List AV} (i : Nat) (hg : o.guard = none) (hd : o.dst = none) (ho : o.op = .call { callee := .builtin .clear, args := #[x], argTypes := #[t] }) (ht : P.underlying t = some (.slice e)) (hz : tyZero P e = some zs) (hk : zs.length = k) (hz1 : ∀ v ∈ zs, v.oneCell' = true)
    (hx : evalT f x = .x (.slice (some ⟨g, off, none⟩) m c)) (hi : h[i]? = some (.cells g T cs)) (hm : 0 < m) (hoff : off + m * k ≤ cs.length)
    (kk : WL none P C ops Q rest ⟨f, h.set i (.cells g T (cs.take off ++ List.replicate (cs.length - off) .any))⟩) : WL none P C ops Q (o :: rest) ⟨f, h⟩ := by
  refine ⟨fun a w hs => wpList_plain hg fun K hK => ?_⟩
  have hxe := hs.slots.eval x
  simp only at hxe
  rw [hx, rep_x] at hxe
  obtain ⟨us, hh, hus, hur⟩ := hs.env.objs _ (List.mem_of_getElem? hi)
  obtain ⟨z, hz2, hz3⟩ := tyZero_spec hz w
  have hzs : z.cells.size = k := by rw [← Array.length_toList, hz3, hk]
  have hall : ∀ v ∈ (Builtin.zeroCells z.cells m).toList, v.oneCell' = true := by
    intro v hv
    simp [Builtin.zeroCells] at hv
    obtain ⟨q, hq, rfl⟩ := hv
    have hk0 : 0 < z.cells.size := by
      rcases Nat.eq_zero_or_pos z.cells.size with h0 | h0
      · rw [h0] at hq; omega
      · exact h0
    have hlt : q % z.cells.size < z.cells.size := Nat.mod_lt _ hk0
    have : z.cells[q % z.cells.size]'hlt ∈ zs := by rw [← hz3]; simp
    have h5 := hz1 _ this
    simpa [hlt] using h5
  have hlen : (Builtin.zeroCells z.cells m).toList.length = m * k := by simp [Builtin.zeroCells, hzs]
  have hst := run_storeCells_at (P := P) g off T (Builtin.zeroCells z.cells m).toList 0 us w hh (by rw [hlen]; omega) hall
  obtain ⟨m', rfl⟩ : ∃ m', m = m' + 1 := ⟨m - 1, by omega⟩
  simp only [Nat.add_zero] at hst
  have hrun : ∃ r, (execOp a.eval o).run P w = .ok r (w.setRow g (us.toList.take off ++ (Builtin.zeroCells z.cells (m' + 1)).toList ++ us.toList.drop (off + (Builtin.zeroCells z.cells (m' + 1)).toList.length)).toArray) ∧ ∃ v, r = .value v := by
    refine ⟨.value (.tuple #[]), ?_, _, rfl⟩
    simp [execOp, ho, resolve, invoke, builtin, hxe, Builtin.clear_, run_underlying ht, hz2, hst]
  obtain ⟨r, hrun, v, rfl⟩ := hrun
  unfold Oper.wp
  rw [hrun]
  refine hK _ _ (kk.run _ _ ?_)
  rw [hd]
  have hgw : w.grownBy (w.setRow g (us.toList.take off ++ (Builtin.zeroCells z.cells (m' + 1)).toList ++ us.toList.drop (off + (Builtin.zeroCells z.cells (m' + 1)).toList.length)).toArray) (some g) := ⟨rfl, rfl, rfl, by simp, fun b hb hne => setRow_other w g b _ (by intro e; subst e; exact hne rfl)⟩
  have hq : ∀ b, (HObj.cells g T (cs.take off ++ List.replicate (cs.length - off) .any)).blk = some b → (HObj.cells g T cs).blk = some b ∨ w.heap.size ≤ b := fun b hb => .inl hb
  have hO := owned_set hi hs.env hq
  have hkeep : Kept (owned C.X h) w (w.setRow g (us.toList.take off ++ (Builtin.zeroCells z.cells (m' + 1)).toList ++ us.toList.drop (off + (Builtin.zeroCells z.cells (m' + 1)).toList.length)).toArray) := ⟨hgw.size, fun b hlt hO => hgw.block b hlt fun e => hO (.inr ⟨_, List.mem_of_getElem? hi, by rw [e]; rfl⟩)⟩
  refine ⟨hs.env.set_ hi hgw (fun _ => Nat.le_refl _) ⟨_, setRow_heap w g us _ T _ hh, ?_, ?_⟩ hq (fun b hb => ?_), slots_set hs.env hi hgw hq hs.slots⟩
  · simp only [List.size_toArray, List.length_append, List.length_take, List.length_drop, List.length_replicate, hlen, Array.length_toList, hus]
    omega
  · refine RepC.mk fun j cc hj => ?_
    rw [List.getElem?_append] at hj
    split at hj
    · rename_i hlt
      rw [List.length_take] at hlt
      rw [List.getElem?_take, if_pos (by omega)] at hj
      obtain ⟨u, hu, hr⟩ := (RepC.mono hkeep hO _ _ hur).at_ j cc hj
      refine ⟨u, ?_, hr⟩
      have hu' : us[j]? = some u := hu
      simp only [List.getElem?_toArray]
      rw [List.append_assoc, List.getElem?_append_left (by rw [List.length_take, Array.length_toList, hus]; omega), List.getElem?_take, if_pos (by omega), Array.getElem?_toList]
      exact hu'
    · rw [List.getElem?_replicate] at hj
      split at hj
      · rename_i hge hlt2
        obtain rfl : AV.any = cc := by simpa using hj
        rw [List.length_take] at hge hlt2
        have hj2 : j < (us.toList.take off ++ (Builtin.zeroCells z.cells (m' + 1)).toList ++ us.toList.drop (off + (Builtin.zeroCells z.cells (m' + 1)).toList.length)).length := by
          simp only [List.length_append, List.length_take, List.length_drop, hlen, Array.length_toList, hus]; omega
        exact ⟨_, by rw [List.getElem?_toArray]; exact List.getElem?_eq_getElem hj2, by simp only [Rep]⟩
      · cases hj
  · obtain rfl : g = b := by simpa [HObj.blk] using hb
    have := (Array.getElem?_eq_some_iff.1 hh).1
    simpa using this
end

section
variable {P : Program} {K : Prop} {N : Nat} {X : Nat → Prop} {h : List HObj} {f : Nat → AV} {o : Oper}
/-- A place in a slice that is known just. -/
theorem p_indexAddr_ow {t e : TypeId} {x y : Operand} {g off n c k : Nat} (i : Nat) {b : Bool} {ik : IntKind} {z : Int} (ho : o.op = .indexAddr t x y) (hx : evalT f x = .x (.slice (some ⟨g, off, none⟩) n c)) (ht : P.underlying t = some (.slice e)) (he : tyOf P e = some (b, k))
    (hy : evalT f y = .x (.int ik z)) (hz : z = (i : Int)) (hi : i < n) : PureOp P K N X h f o (.x (.pointer (some ⟨g, off + i * k, none⟩))) := pure_run fun a w w0 env H => by
  rw [ho] at H
  have h1 := H x (by simp [Op.operands])
  have h2 := H y (by simp [Op.operands])
  rw [hx, rep_x] at h1
  rw [hy, rep_x] at h2
  subst hz
  refine ⟨_, ?_, rep_x.2 rfl⟩
  simp only [execOp, ho, h1, h2, Instr.indexAt, asIntOf, Sem.run_bind, Sem.run_pure, Result.andThen_ok, run_underlying ht, Instr.sureAddr]
  have : (0 : Int) ≤ (i : Int) ∧ (i : Int) < (n : Int) := by omega
  simp [this, run_sizeOf_ he, hi, add_plain]
end

end Go.Proofs.Ytpehmadeklaebaa
