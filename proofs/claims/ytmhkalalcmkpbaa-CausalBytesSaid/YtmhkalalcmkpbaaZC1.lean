/-
  A9 B1 C1
-/
import Derived.Test.YtmhkalalcmkpbaaZA8
namespace Go.Proofs.Ytmhkalalcmkpbaa
open Go Go.RowKit
set_option linter.unusedVariables false
set_option linter.unusedSimpArgs false

/-- No operation takes a draw back. -/
theorem view_drawn {P : Program} {w w' : World} {l : List Addr} {at_ : Addr} {u : TypeId} {k : Addr} {v : Value} {b : Bool} (h : w.viewStore P at_ u k v b = .ok (w', l)) : w'.drawn = w.drawn := by
  unfold World.viewStore at h
  simp only [bind, Except.bind, pure, Except.pure] at h
  repeat' (split at h)
  all_goals first
    | (cases h; done)
    | (injection h with h; injection h with h1 h2; rw [← h1])
theorem far_drawn {P : Program} {w w' : World} {l : List Addr} {a : Addr} {v : Value} {b : Bool} (h : w.farStore P a v b = .ok (w', l)) : w'.drawn = w.drawn := by
  unfold World.farStore at h
  repeat' (split at h)
  · rename_i r hr
    injection h with h; subst h
    exact view_drawn hr
  · cases h
  · cases h
theorem ask_drawn {α : Type} : ∀ (x : Ask α) (w : World), w.drawn ≤ (w.ask x).2.drawn
  | .done a, w => Nat.le_refl _
  | .ask what range k, w => by
    unfold World.ask
    simp only []
    split
    · exact ask_drawn (k 0) w
    · have hh := ask_drawn (k ((Question.extern what range).cut (w.tape w.drawn (Question.extern what range)))) { w with drawn := w.drawn + 1 }
      exact Nat.le_trans (Nat.le_succ _) hh
theorem sys_drawn (w : World) (c : Sys) : w.drawn ≤ (w.sys c).2.drawn := by
  have := ask_drawn (Kernel.perform c w.os) w
  unfold World.sys
  split
  · exact Nat.le_refl _
  · rename_i h
    rw [h] at this; exact this
theorem run_drawn {P : Program} {α : Type} (x : Sem α) : ∀ (w : World) {a : α} {w' : World}, x.run P w = .ok a w' → w.drawn ≤ w'.drawn := by
  induction x with
  | pure a => intro w a w' h; simp only [Sem.run, Result.ok.injEq] at h; rw [← h.2]; exact Nat.le_refl _
  | load m a k ih =>
    intro w b w' h
    simp only [Sem.run] at h
    repeat' (split at h)
    · (have hh := ih _ _ h; exact hh)
    · (have hh := ih _ _ h; exact hh)
    · cases h
  | store m a v k ih =>
    intro w b w' h
    cases v <;> simp only [Sem.run] at h <;> (try (cases h; done)) <;> (repeat' (split at h)) <;> first
      | (cases h; done)
      | (have hh := ih _ h; exact hh)
      | (rename_i hf; have := far_drawn hf; have := ih _ h; omega)
  | new o k ih => intro w b w' h; simp only [Sem.run] at h; (have hh := ih _ _ h; exact hh)
  | shape r k ih => intro w b w' h; simp only [Sem.run] at h; (have hh := ih _ _ h; exact hh)
  | freeze a n k ih =>
    intro w b w' h; simp only [Sem.run] at h
    have := ih _ h
    have e : (w.freeze a n).drawn = w.drawn := by unfold World.freeze; split <;> rfl
    omega
  | frozen a k ih => intro w b w' h; simp only [Sem.run] at h; (have hh := ih _ _ h; exact hh)
  | getObj r k ih =>
    intro w b w' h
    simp only [Sem.run] at h
    repeat' (split at h)
    · cases h
    · (have hh := ih _ _ h; exact hh)
    · cases h
  | setObj r o k ih =>
    intro w b w' h
    simp only [Sem.run] at h
    repeat' (split at h)
    · cases h
    · (have hh := ih _ h; exact hh)
    · cases h
  | choose q k ih =>
    intro w b w' h
    simp only [Sem.run] at h
    split at h
    · (have hh := ih _ _ h; exact hh)
    · exact Nat.le_trans (Nat.le_succ _) (ih _ _ h)
  | sys c k ih =>
    intro w b w' h; simp only [Sem.run] at h
    exact Nat.le_trans (sys_drawn w c) (ih _ _ h)
  | program k ih => intro w b w' h; simp only [Sem.run] at h; (have hh := ih _ _ h; exact hh)
  | mark m k ih => intro w b w' h; simp only [Sem.run] at h; (have hh := ih _ h; exact hh)
  | halt h => intro w a w' h; simp [Sem.run] at h

/-- Of an element type: how many cells, how many bytes. -/
def rowOf (P : Program) (e : TypeId) : Option (Nat × Nat) :=
  match P.info? e with
  | some i => match i.zero with
    | some z => bif Nat.beq z.cells.size i.size && Nat.blt 0 i.size then some (i.size, i.bytes) else none
    | none => none
  | none => none
theorem rowOf_spec {P : Program} {e : TypeId} {k b : Nat} (h : rowOf P e = some (k, b)) : ∃ i z, P.info? e = some i ∧ i.zero = some z ∧ i.size = k ∧ i.bytes = b ∧ z.cells.size = k ∧ 0 < k := by
  unfold rowOf at h
  cases hi : P.info? e with
  | none => simp [hi] at h
  | some i =>
    cases hz : i.zero with
    | none => simp [hi, hz] at h
    | some z =>
      simp only [hi, hz] at h
      cases hb : (Nat.beq z.cells.size i.size && Nat.blt 0 i.size) with
      | false => simp [hb] at h
      | true =>
        simp only [hb, cond_true, Option.some.injEq, Prod.mk.injEq] at h
        rw [Bool.and_eq_true] at hb
        have h1 := Nat.eq_of_beq_eq_true hb.1
        have h2 : 0 < i.size := by simpa [Nat.blt_eq] using hb.2
        exact ⟨i, z, rfl, hz, h.1, h.2, h1.trans h.1, h.1 ▸ h2⟩

/-- The values that lie where a slice's cells are. -/
theorem repC_vals {O : Nat → Prop} {w : World} : ∀ {cs : List AV} {g : Nat → Option Value}, RepC O w cs g → ∃ us : List Value, us.length = cs.length ∧ (∀ (j : Nat) u, us[j]? = some u → g j = some u) ∧ RepC O w cs (fun j => us[j]?)
  | [], g, h => ⟨[], rfl, fun j u hj => by simp at hj, by simp [RepC]⟩
  | c :: cs, g, h => by
    simp only [RepC] at h
    obtain ⟨⟨u, hu, hr⟩, h2⟩ := h
    obtain ⟨us, h3, h4, h5⟩ := repC_vals h2
    refine ⟨u :: us, by simp [h3], fun j v hj => ?_, ?_⟩
    · cases j with
      | zero => obtain rfl : u = v := by simpa using hj
                exact hu
      | succ j => exact h4 j v (by simpa using hj)
    · simp only [RepC]
      exact ⟨⟨u, rfl, hr⟩, by simpa using h5⟩

theorem zeros_toList (n : Nat) (z : Array Value) : ((Array.range n).map (z[· % z.size]!)).toList = (List.range n).map fun j => z[j % z.size]! := by simp

section
variable {P : Program} {K : Prop} {N : Nat} {X : Nat → Prop} {h : List HObj} {f : Nat → AV} {o : Oper}

def zcells (zs : List Value) (n : Nat) : List AV := (List.range n).map fun j => .x (zs[j % zs.length]!)

theorem run_buildSlice {O : Nat → Prop} {w : World} {a : Act} {t e : TypeId} {n k : Nat} {b : Bool} {parts : List (Nat × Operand)} {zs : List Value} {res : List AV} (ho : o.op = .buildSlice t n parts.toArray) (hz : tyZero P e = some zs) (ht : P.underlying t = some (.slice e)) (he : tyOf P e = some (b, k)) (hn : n * k ≤ 16777216) (hp : 0 < n * k) (hfl : flats f parts = true)
    (H : ∀ x ∈ o.op.operands.toList, Rep O w (evalT f x) (a.eval x))
    (hres : fillA (fun i => some (i * k, k)) (zcells zs (n * k)) (parts.map fun p => (p.1, evalT f p.2)) = some res) :
    ∃ vs : Array Value, (execOp a.eval o).run P w = .ok (.value (.slice (some ⟨w.heap.size, 0, none⟩) n n)) (w.alloc (.cells vs e)) ∧ vs.size = res.length ∧ RepC O w res (fun j => vs[j]?) := by
  rw [ho] at H
  obtain ⟨z, hz1, hz2⟩ := tyZero_spec hz w
  have hzl : (List.range (n * k)).map (fun j => z.cells[j % z.cells.size]!) = (List.range (n * k)).map fun j => zs[j % zs.length]! := by
    refine List.map_congr_left fun j _ => ?_
    rw [← hz2]; simp; rw [getElem!_def]; cases z.cells[j % z.cells.size]? <;> rfl
  obtain ⟨vs, h1, h2, h3⟩ := fillA_spec (O := O) (w := w) (ρ := a.eval) (f := f) (fun i => some (i * k, k)) (fun i => some (i * k, k)) (fun i => rfl) parts (zcells zs (n * k)) ((Array.range (n * k)).map (z.cells[· % z.cells.size]!)) res (by simp [zcells])
        (by have e : (fun j => ((Array.range (n * k)).map (z.cells[· % z.cells.size]!))[j]?) = (fun j => ((List.range (n * k)).map fun j => zs[j % zs.length]!)[j]?) := funext fun j => by rw [← Array.getElem?_toList, zeros_toList, hzl]
            rw [e]
            have := zero_rep (O := O) (w := w) ((List.range (n * k)).map fun j => zs[j % zs.length]!)
            simpa [zcells, List.map_map, Function.comp_def] using this)
        (fun p hp => ⟨H p.2 (by simp [Op.operands]; exact ⟨p.1, hp⟩), flats_spec hfl p hp⟩) hres
  refine ⟨vs, ?_, h2, h3⟩
  have h24 : ¬ (n * k > 2 ^ 24) := by simpa using hn
  have hne : ¬ (n * k = 0) := by omega
  simp only [execOp, ho, Instr.buildSlice, Sem.run_bind, Result.andThen_ok, run_underlying ht, run_sizeOf_ he, h24, hne, if_false, Sem.run_pure, hz1]
  have e : (parts.toArray.map fun (x : Nat × Operand) => (x.1, a.eval x.2)).toList = parts.map fun p => (p.1, a.eval p.2) := by simp
  rw [e, h1]
  simp [newRow]

/-- A slice literal that nobody writes. -/
theorem p_buildSlice {t e : TypeId} {n k : Nat} {b : Bool} {parts : List (Nat × Operand)} {zs : List Value} {res : List AV} (ho : o.op = .buildSlice t n parts.toArray) (hz : tyZero P e = some zs) (ht : P.underlying t = some (.slice e)) (he : tyOf P e = some (b, k)) (hn : n * k ≤ 16777216) (hp : 0 < n * k) (hfl : flats f parts = true)
    (hres : fillA (fun i => some (i * k, k)) (zcells zs (n * k)) (parts.map fun p => (p.1, evalT f p.2)) = some res) (hl : res.length = n * k) : PureOp P K N X h f o (.sl k n res) := pure_of fun a w w0 hK env H => by
  obtain ⟨vs, h1, h2, h3⟩ := run_buildSlice ho hz ht he hn hp hfl H hres
  have hb := below_alloc1 (K := K) w (.cells vs e)
  refine ⟨_, _, h1, hb, ?_⟩
  simp only [Rep]
  have hk : 0 < k := Nat.pos_of_mul_pos_left hp
  have hnn : n ≤ 16777216 := Nat.le_trans (Nat.le_mul_of_pos_right n hk) hn
  refine ⟨hl, _, n, rfl, Nat.le_refl _, by omega, .inr ⟨_, rfl, by simp, fun hx => ?_, ?_⟩⟩
  · have := owned_lt env hx
    simp at this
  · have h4 := RepC.mono (Kept.of_below hb.b) (fun _ _ h => h) _ _ h3
    have e : (fun j => (w.alloc (.cells vs e)).cell? ((⟨w.heap.size, 0, none⟩ : Addr).add j)) = (fun j => vs[j]?) := funext fun j => by
      rw [add_plain]; simp only [World.cell?, heap_alloc_new w (.cells vs e)]; simp
    rw [e]; exact h4

/-- A cut of a slice that nobody writes. -/
theorem rep_cut {O : Nat → Prop} {w : World} {k n lo hi c : Nat} {A : Option Addr} {cs : List AV} {cap : Nat} (hr : Rep O w (.sl k n cs) (.slice A n c)) (h1 : lo ≤ hi) (h2 : hi ≤ n) (h3 : hi ≤ cap) (h4 : cap ≤ 9223372036854775807) :
    Rep O w (.sl k (hi - lo) ((cs.take (hi * k)).drop (lo * k))) (.slice (if cap = lo then A else A.map (·.add (lo * k))) (hi - lo) (cap - lo)) := by
  simp only [Rep] at hr ⊢
  obtain ⟨hl, A', c', e, hnc, hcm, hor⟩ := hr
  injection e with e1 e2 e3
  subst e1 e3
  have hle : hi * k ≤ n * k := Nat.mul_le_mul_right k h2
  refine ⟨by rw [List.length_drop, List.length_take, hl, Nat.min_eq_left hle, Nat.sub_mul], _, _, rfl, by omega, by omega, ?_⟩
  by_cases hz : (hi - lo) * k = 0
  · exact .inl hz
  · rcases hor with h0 | ⟨ad, rfl, hb, hO, hc⟩
    · exfalso; apply hz
      rcases Nat.mul_eq_zero.1 h0 with h0 | h0
      · rw [show hi - lo = 0 by omega]; simp
      · rw [h0]; simp
    · have hlt : lo < hi := by
        rcases Nat.lt_or_ge lo hi with h | h
        · exact h
        · exfalso; apply hz; rw [show hi - lo = 0 by omega]; simp
      rw [if_neg (by omega)]
      refine .inr ⟨ad.add (lo * k), rfl, by rw [block_of_add]; exact hb, by rw [block_of_add]; exact hO, ?_⟩
      have := (hc.take (hi * k)).drop (lo * k)
      have e : (fun j => w.cell? ((ad.add (lo * k)).add j)) = (fun j => w.cell? (ad.add (lo * k + j))) := funext fun j => by rw [add_of_add]
      rw [e]; exact this

def boundOf (f : Nat → AV) (d : Nat) : Option Operand → Nat → Prop
  | none, n => n = d
  | some x, n => ∃ ik z, evalT f x = .x (.int ik z) ∧ z = (n : Int)

theorem p_slice_sl {t e : TypeId} {x : Operand} {lo hi : Option Operand} {k n l r : Nat} {b : Bool} {cs : List AV} (ho : o.op = .slice t x lo hi none) (hx : evalT f x = .sl k n cs) (ht : P.underlying t = some (.slice e)) (he : tyOf P e = some (b, k)) (hlo : boundOf f 0 lo l) (hhi : boundOf f n hi r) (h1 : l ≤ r) (h2 : r ≤ n) :
    PureOp P K N X h f o (.sl k (r - l) ((cs.take (r * k)).drop (l * k))) := pure_run fun a w w0 env H => by
  rw [ho] at H
  have hx1 := H x (by simp [Op.operands])
  rw [hx] at hx1
  have hx2 := hx1
  simp only [Rep] at hx2
  obtain ⟨hl, A, c, e1, hnc, hcm, _⟩ := hx2
  rw [e1] at hx1
  have hlo' : ∀ v, lo.map a.eval = some v → ∃ ik, v = .int ik (l : Int) := fun v hv => by
    cases lo with
    | none => cases hv
    | some y =>
      obtain ⟨ik, z, hy, rfl⟩ := hlo
      have := H y (by simp [Op.operands])
      rw [hy, rep_x] at this
      simp only [Option.map_some, Option.some.injEq] at hv
      exact ⟨ik, by rw [← hv, this]⟩
  have hhi' : ∀ v, hi.map a.eval = some v → ∃ ik, v = .int ik (r : Int) := fun v hv => by
    cases hi with
    | none => cases hv
    | some y =>
      obtain ⟨ik, z, hy, rfl⟩ := hhi
      have := H y (by simp [Op.operands])
      rw [hy, rep_x] at this
      simp only [Option.map_some, Option.some.injEq] at hv
      exact ⟨ik, by rw [← hv, this]⟩
  refine ⟨.slice (if c = l then A else A.map (·.add (l * k))) (r - l) (c - l), ?_, rep_cut hx1 h1 h2 (by omega) hcm⟩
  have hb : (Instr.sliceBounds true n c (lo.map a.eval) (hi.map a.eval) none).run P w = .ok (l, r, c) w := by
    unfold Instr.sliceBounds
    cases hlv : lo.map a.eval with
    | none =>
      have hl0 : l = 0 := by cases lo with | none => exact hlo | some y => cases hlv
      subst hl0
      cases hhv : hi.map a.eval with
      | none =>
        have : r = n := by cases hi with | none => exact hhi | some y => cases hhv
        subst this; simp
      | some v =>
        obtain ⟨ik, rfl⟩ := hhi' v hhv
        have : (0 : Int) ≤ (r : Int) ∧ (r : Int) ≤ (c : Int) := by omega
        simp [Instr.sliceBound, asIntOf, show r ≤ c by omega]
    | some u =>
      obtain ⟨ik', rfl⟩ := hlo' u hlv
      cases hhv : hi.map a.eval with
      | none =>
        have : r = n := by cases hi with | none => exact hhi | some y => cases hhv
        subst this; simp [Instr.sliceBound, asIntOf, h1]
      | some v =>
        obtain ⟨ik, rfl⟩ := hhi' v hhv
        simp [Instr.sliceBound, asIntOf, h1, show r ≤ c by omega]
  have hu : (underlying t).run P w = .ok (.slice e) w := run_underlying ht w
  simp only [execOp, ho, Instr.sliceAt, Sem.run_bind, hu, Result.andThen_ok, Instr.slice, e1, Option.map_none, hb, run_sizeOf_ he, Sem.run_pure]
theorem p_slice_str {t : TypeId} {x : Operand} {lo hi : Option Operand} {l r : Nat} {s : ByteArray} (ho : o.op = .slice t x lo hi none) (hx : evalT f x = .x (.string s)) (ht : P.underlying t = some .string) (hlo : boundOf f 0 lo l) (hhi : boundOf f s.size hi r) (h1 : l ≤ r) (h2 : r ≤ s.size) :
    PureOp P K N X h f o (.x (.string (s.extract l r))) := pure_run fun a w w0 env H => by
  rw [ho] at H
  have hx1 := H x (by simp [Op.operands])
  rw [hx, rep_x] at hx1
  have hlo' : ∀ v, lo.map a.eval = some v → ∃ ik, v = .int ik (l : Int) := fun v hv => by
    cases lo with
    | none => cases hv
    | some y =>
      obtain ⟨ik, z, hy, rfl⟩ := hlo
      have := H y (by simp [Op.operands])
      rw [hy, rep_x] at this
      simp only [Option.map_some, Option.some.injEq] at hv
      exact ⟨ik, by rw [← hv, this]⟩
  have hhi' : ∀ v, hi.map a.eval = some v → ∃ ik, v = .int ik (r : Int) := fun v hv => by
    cases hi with
    | none => cases hv
    | some y =>
      obtain ⟨ik, z, hy, rfl⟩ := hhi
      have := H y (by simp [Op.operands])
      rw [hy, rep_x] at this
      simp only [Option.map_some, Option.some.injEq] at hv
      exact ⟨ik, by rw [← hv, this]⟩
  refine ⟨.string (s.extract l r), ?_, rep_x.2 rfl⟩
  have hb : (Instr.sliceBounds false s.size s.size (lo.map a.eval) (hi.map a.eval) none).run P w = .ok (l, r, s.size) w := by
    unfold Instr.sliceBounds
    cases hlv : lo.map a.eval with
    | none =>
      have hl0 : l = 0 := by cases lo with | none => exact hlo | some y => cases hlv
      subst hl0
      cases hhv : hi.map a.eval with
      | none =>
        have : r = s.size := by cases hi with | none => exact hhi | some y => cases hhv
        subst this; simp
      | some v =>
        obtain ⟨ik, rfl⟩ := hhi' v hhv
        simp [Instr.sliceBound, asIntOf, h2]
    | some u =>
      obtain ⟨ik', rfl⟩ := hlo' u hlv
      cases hhv : hi.map a.eval with
      | none =>
        have : r = s.size := by cases hi with | none => exact hhi | some y => cases hhv
        subst this; simp [Instr.sliceBound, asIntOf, h1]
      | some v =>
        obtain ⟨ik, rfl⟩ := hhi' v hhv
        simp [Instr.sliceBound, asIntOf, h1, h2]
  have hu : (underlying t).run P w = .ok .string w := run_underlying ht w
  simp [execOp, ho, Instr.sliceAt, hu, Instr.slice, hx1, hb]
end

section
variable {P : Program} {C : Cx} {Q : Exit → AS → Prop} {s : AS} {ops : Array Oper} {o : Oper} {rest : List Oper}

/-- A nil slice is a row of nothing. -/
theorem st_nilrow {e : TypeId} {k : Nat} {a : Act} {w : World} (hs : C.St s a w) : C.St ⟨s.t, s.h ++ [.row (.slice none 0 0) e k 0 []]⟩ a w :=
  ⟨hs.env.push (Bl.refl _ _) ⟨[], World.ownsRow_nil _ _ _ _, rfl, by simp [RepC]⟩ (fun b hb => by cases hb), slots_push hs.env (Bl.refl _ _) (fun b hb => by cases hb) hs.slots⟩
theorem awl_nilrow {l : List Oper} (e : TypeId) (k : Nat) (kk : AWL P C ops Q l ⟨s.t, s.h ++ [.row (.slice none 0 0) e k 0 []]⟩) : AWL P C ops Q l s := fun a w hs => kk a w (st_nilrow hs)
theorem aw_nilrow {c : Code} (e : TypeId) (k : Nat) (kk : AW P C c Q ⟨s.t, s.h ++ [.row (.slice none 0 0) e k 0 []]⟩) : AW P C c Q s := fun a w hs => kk a w (st_nilrow hs)

/-- A row comes to rest: nobody writes it any more. -/
theorem st_freeze {i t : Nat} {v : Value} {e : TypeId} {k n : Nat} {cs : List AV} {a : Act} {w : World} (hi : s.h[i]? = some (.row v e k n cs)) (ht : s.t t = .x v) (hs : C.St s a w) : C.St ⟨upd s.t t (.sl k n cs), s.h.set i .dead⟩ a w := by
  have hg : w.grownBy w (HObj.row v e k n cs).blk := World.grownBy.refl _ _
  have hq : ∀ b, HObj.dead.blk = some b → (HObj.row v e k n cs).blk = some b ∨ w.heap.size ≤ b := fun b hb => by cases hb
  have env2 := hs.env.set_ (q := .dead) hi hg (fun _ => Nat.le_refl _) trivial hq (fun b hb => by cases hb)
  have sl2 := slots_set (q := .dead) hs.env hi hg hq hs.slots
  refine ⟨env2, sl2.defers, sl2.size, fun u => ?_⟩
  by_cases hu : u = t
  · subst hu
    show Rep _ _ (upd s.t u (.sl k n cs) u) _
    rw [upd_same]
    have h1 := hs.slots.slot u
    rw [ht, rep_x] at h1
    obtain ⟨vs, h2, h3, h4⟩ := hs.env.objs _ (List.mem_of_getElem? hi)
    simp only [Rep]
    refine ⟨by rw [← h3]; exact h2.1, ?_⟩
    rcases h2.2 with ⟨rfl, rfl⟩ | ⟨g, cap, cur, rfl, hb, hh, hn, hc, hsz, htk⟩
    · exact ⟨none, 0, h1, Nat.le_refl _, by omega, .inl (by simp)⟩
    · simp only [maxLen] at hc
      refine ⟨_, cap, h1, hn, hc, .inr ⟨_, rfl, (Array.getElem?_eq_some_iff.1 hh).1, ?_, ?_⟩⟩
      · rintro (hx | ⟨o, ho, hob⟩)
        · have h5 := hs.env.ext _ hx
          have h6 := hs.env.new _ (List.mem_of_getElem? hi) g rfl
          simp only at h5
          rcases h6 with h6 | h6
          · omega
          · exact h5.2 h6
        · obtain ⟨j, hj⟩ := List.mem_iff_getElem?.1 ho
          rw [List.getElem?_set] at hj
          split at hj
          · split at hj
            · obtain rfl : HObj.dead = o := by simpa using hj
              cases hob
            · cases hj
          · rename_i hne
            exact hne (hs.env.apart i j _ o g hi hj rfl hob)
      · have h5 := RepC.mono (Kept.refl _ w) (owned_set (q := .dead) hi hs.env hq) _ _ h4
        refine RepC.mk fun j c hj => ?_
        obtain ⟨u', hu', hr⟩ := h5.at_ j c hj
        exact ⟨u', h2.cells (g := g) rfl j u' hu', hr⟩
  · show Rep _ _ (upd s.t t (.sl k n cs) u) _
    rw [upd_ne _ _ hu]
    exact sl2.slot u
theorem awl_freeze {l : List Oper} (i t : Nat) {v : Value} {e : TypeId} {k n : Nat} {cs : List AV} (hi : s.h[i]? = some (.row v e k n cs)) (ht : s.t t = .x v) (kk : AWL P C ops Q l ⟨upd s.t t (.sl k n cs), s.h.set i .dead⟩) : AWL P C ops Q l s := fun a w hs => kk a w (st_freeze hi ht hs)
theorem aw_freeze {c : Code} (i t : Nat) {v : Value} {e : TypeId} {k n : Nat} {cs : List AV} (hi : s.h[i]? = some (.row v e k n cs)) (ht : s.t t = .x v) (kk : AW P C c Q ⟨upd s.t t (.sl k n cs), s.h.set i .dead⟩) : AW P C c Q s := fun a w hs => kk a w (st_freeze hi ht hs)

/-- append to a row of the call's own. -/
theorem awl_append {t e : TypeId} {x y : Operand} {i : Nat} {v : Value} {k n m bytes : Nat} {cs news : List AV} (hg : o.guard = none) (ho : o.op = .call { callee := .builtin .append, args := #[x, y], argTypes := #[t, t] }) (ht : P.underlying t = some (.slice e)) (he : rowOf P e = some (k, bytes))
    (hx : evalT s.t x = .x v) (hi : s.h[i]? = some (.row v e k n cs)) (hy : evalT s.t y = .sl k m news) (h1 : AV.ones news = true) (hb : (n + m) * bytes ≤ 140737488355328) (h63 : n + m ≤ 9223372036854775807)
    (kk : ∀ v', AWL P C ops Q rest ⟨putT C.N s.t o.dst (.x v'), s.h.set i (.row v' e k (n + m) (cs ++ news))⟩) : AWL P C ops Q (o :: rest) s := by
  intro a w hs
  refine wpList_plain hg fun K hK => ?_
  obtain ⟨ti, z, g1, g2, g3, g4, g5, g6⟩ := rowOf_spec he
  have hxe := hs.slots.eval x
  rw [hx, rep_x] at hxe
  have hye := hs.slots.eval y
  rw [hy] at hye
  simp only [Rep] at hye
  obtain ⟨hl, A, c, e1, hnc, hcm, hor⟩ := hye
  obtain ⟨vs, hown, hvl, hvr⟩ := hs.env.objs _ (List.mem_of_getElem? hi)
  have hvals : ∃ us : List Value, us.length = news.length ∧ Reads w w.heap.size k A m us ∧ RepC (owned C.X s.h) w news (fun j => us[j]?) := by
    rcases hor with h0 | ⟨ad, rfl, hbl, hO, hc⟩
    · have hm0 : m = 0 := by
        rcases Nat.mul_eq_zero.1 h0 with h | h
        · exact h
        · omega
      subst hm0
      have : news = [] := List.eq_nil_of_length_eq_zero (by simpa using hl)
      subst this
      exact ⟨[], rfl, ⟨by simp, fun h => absurd h (by omega)⟩, by simp [RepC]⟩
    · obtain ⟨us, h2, h3, h4⟩ := repC_vals hc
      exact ⟨us, h2, ⟨by rw [h2, hl], fun _ => ⟨ad, rfl, hbl, h3⟩⟩, h4⟩
  obtain ⟨us, hul, hreads, hur⟩ := hvals
  have hone := AV.ones_spec h1 hul hur
  obtain ⟨v', w', hrun, hown', hgr, hblk⟩ := run_append_any (P := P) w 0 t o.type e ti z k bytes ht g1 g2 g3 g4 g5 g6 v n vs hown w.heap.size A m c us hreads hone (by simp only [maxLen]; omega) hb (Nat.zero_le _)
  have hdr : w.drawn ≤ w'.drawn := run_drawn _ w hrun
  have hrun2 : (execOp a.eval o).run P w = .ok (.value v') w' := by
    simp only [execOp, ho, resolve, invoke, builtin, Sem.run_bind, Sem.run_pure, Result.andThen_ok, List.map_toArray, List.map_cons, List.map_nil, hxe, e1, hrun]
  unfold Oper.wp
  rw [hrun2]
  refine hK _ _ (kk v' _ _ ?_)
  have hq : ∀ b, (HObj.row v' e k (n + m) (cs ++ news)).blk = some b → (HObj.row v e k n cs).blk = some b ∨ w.heap.size ≤ b := fun b hb => by
    simp only [HObj.blk] at hb ⊢
    rcases hblk with h | h
    · exact .inl (h ▸ hb)
    · rw [h] at hb; injection hb with hb; exact .inr (by omega)
  have hgr' : w.grownBy w' (HObj.row v e k n cs).blk := hgr
  have hO := owned_set hi hs.env hq
  have hkeep : Kept (owned C.X s.h) w w' := ⟨hgr.size, fun b hlt hO => hgr.block b hlt fun e => hO (.inr ⟨_, List.mem_of_getElem? hi, e.symm⟩)⟩
  refine ⟨hs.env.set_ hi hgr' (fun _ => hdr) ⟨vs ++ us, hown', by simp [hvl, hul], ?_⟩ hq (fun b hb => (hown'.lt b hb).2), (slots_set hs.env hi hgr' hq hs.slots).put o.dst (rep_x.2 rfl)⟩
  exact RepC.mono hkeep hO _ _ (RepC.append hvl hvr hur)
end
end Go.Proofs.Ytmhkalalcmkpbaa

namespace Go.Proofs.Ytmhkalalcmkpbaa
open Go Go.RowKit
set_option linter.unusedVariables false
set_option linter.unusedSimpArgs false

structure W (P : Program) (C : Cx) (c : Code) (Q : Exit → AS → Prop) (s : AS) : Prop where
  run : AW P C c Q s
/-- A list of operations: in order (none), or the first ones of a region that draws (some tail). -/
structure WL (m : Option (List Oper)) (P : Program) (C : Cx) (ops : Array Oper) (Q : Exit → AS → Prop) (l : List Oper) (s : AS) : Prop where
  run : match m with | none => AWL P C ops Q l s | some tail => Chain P C.w0.K C.N C.X s.h ops l s.t fun f => AWL P C ops Q tail ⟨f, s.h⟩

def thenW (n : AS → Prop) (Q : Exit → AS → Prop) : Exit → AS → Prop
  | .normal, s => n s
  | e, s => Q e s

section
variable {P : Program} {C : Cx} {Q : Exit → AS → Prop} {f : Nat → AV} {h : List HObj} {s : AS} {m : Option (List Oper)} {ops : Array Oper} {o : Oper} {rest : List Oper}

theorem wSkip (k : Q .normal s) : W P C .skip Q s := ⟨aw_skip k⟩
theorem wLabel {l : Nat} (k : Q .normal s) : W P C (.label l) Q s := ⟨aw_label k⟩
theorem wExit {i : Nat} (k : Q (.exit i) s) : W P C (.exit i) Q s := ⟨aw_exit k⟩
theorem wRet (k : Q .ret s) : W P C .ret Q s := ⟨aw_ret k⟩
theorem wSeq {x y : Code} (k : W P C x (thenW (W P C y Q) Q) s) : W P C (.seq x y) Q s :=
  ⟨aw_seq (aw_mono k.run fun e s hq => by cases e <;> first | exact hq.run | exact hq)⟩
theorem wCond {c : Operand} {x y : Code} {b : Bool} (hc : evalT f c = .x (.bool b)) (k1 : b = true → W P C x Q ⟨f, h⟩) (k2 : b = false → W P C y Q ⟨f, h⟩) : W P C (.cond c x y) Q ⟨f, h⟩ := ⟨aw_cond hc (fun e => (k1 e).run) fun e => (k2 e).run⟩
theorem wCondT {c : Operand} {x y : Code} (hc : evalT f c = .x (.bool true)) (k1 : W P C x Q ⟨f, h⟩) : W P C (.cond c x y) Q ⟨f, h⟩ := wCond hc (fun _ => k1) fun e => by cases e
theorem wCondF {c : Operand} {x y : Code} (hc : evalT f c = .x (.bool false)) (k1 : W P C y Q ⟨f, h⟩) : W P C (.cond c x y) Q ⟨f, h⟩ := wCond hc (fun e => by cases e) fun _ => k1
theorem wBlock {i : Nat} {c : Code} (k : W P C c (inB i Q) s) : W P C (.block i c) Q s := ⟨aw_block k.run⟩
theorem wReg {i : Nat} {l : List Oper} (k : WL none P C l.toArray Q l s) : W P C (.region i l.toArray false) Q s := ⟨aw_region k.run⟩
theorem wDraw {i : Nat} {l : List Oper} (n : Nat) (hm : P.follows .mixedOrders = true) (hok : drawOk l.toArray n C.N = true) (k : WL (some (l.drop n)) P C l.toArray Q (l.take n) s) : W P C (.region i l.toArray true) Q s :=
  ⟨aw_draw hm n hok (by simpa using k.run)⟩
theorem lNil (k : Q .normal s) : WL none P C ops Q [] s := ⟨awl_nil k⟩
theorem lTail {tail : List Oper} (k : WL none P C ops Q tail s) : WL (some tail) P C ops Q [] s := ⟨k.run⟩

theorem putT_upd {N : Nat} {f : Nat → AV} {d : Nat} {av : AV} (hN : Nat.blt d N = true) : putT N f (some d) av = upd f d av := by simp [putT, hN]

/-- An operation that gives a value. -/
theorem sP {av : AV} {d : Nat} (hg : o.guard = none) (hd : o.dst = some d) (hN : Nat.blt d C.N = true) (hp : PureOp P C.w0.K C.N C.X h f o av) (k : WL m P C ops Q rest ⟨upd f d av, h⟩) : WL m P C ops Q (o :: rest) ⟨f, h⟩ := by
  cases m with
  | none =>
    refine ⟨awl_pure av hg hp ?_⟩
    rw [hd, putT_upd hN]; exact k.run
  | some tail =>
    refine ⟨chain_pure av hg hp ?_⟩
    rw [hd, putT_upd hN]; exact k.run
/-- A guarded one that is wanted; one that is not. -/
theorem sG {av : AV} {d j t : Nat} {b : Bool} (hg : o.guard = some (j, b)) (hj : (ops[j]?).bind (·.dst) = some t) (ht : f t = .x (.bool b)) (hd : o.dst = some d) (hN : Nat.blt d C.N = true) (hp : PureOp P C.w0.K C.N C.X h f o av) (k : WL m P C ops Q rest ⟨upd f d av, h⟩) : WL m P C ops Q (o :: rest) ⟨f, h⟩ := by
  cases m with
  | none =>
    refine ⟨awl_wanted av hg hj ht hp ?_⟩
    rw [hd, putT_upd hN]; exact k.run
  | some tail =>
    refine ⟨chain_wanted av hg hj ht hp ?_⟩
    rw [hd, putT_upd hN]; exact k.run
theorem sU {d j t : Nat} {b b' : Bool} (hg : o.guard = some (j, b)) (hj : (ops[j]?).bind (·.dst) = some t) (ht : f t = .x (.bool b')) (hb : b' ≠ b) (hd : o.dst = some d) (hN : Nat.blt d C.N = true) (k : WL m P C ops Q rest ⟨upd f d .any, h⟩) : WL m P C ops Q (o :: rest) ⟨f, h⟩ := by
  cases m with
  | none =>
    refine ⟨awl_unwanted hg hj ht hb ?_⟩
    rw [hd, putT_upd hN]; exact k.run
  | some tail =>
    refine ⟨chain_unwanted hg hj ht hb ?_⟩
    rw [hd, putT_upd hN]; exact k.run
theorem sAlloc {T : TypeId} {zs : List Value} {d : Nat} (hg : o.guard = none) (hd : o.dst = some d) (hN : Nat.blt d C.N = true) (ho : o.op = .alloc T) (hz : tyZero P T = some zs)
    (k : ∀ g, WL none P C ops Q rest ⟨upd f d (.x (.pointer (some ⟨g, 0, none⟩))), h ++ [.cells g T (zs.map .x)]⟩) : WL none P C ops Q (o :: rest) ⟨f, h⟩ :=
  ⟨awl_alloc hg ho hz fun g => by rw [hd, putT_upd hN]; exact (k g).run⟩
theorem sBox {T : TypeId} {x : Operand} {cs : List AV} {d : Nat} (hg : o.guard = none) (hd : o.dst = some d) (hN : Nat.blt d C.N = true) (ho : o.op = .box T x) (hx : evalT f x = .agg cs)
    (k : ∀ g, WL none P C ops Q rest ⟨upd f d (.x (.pointer (some ⟨g, 0, none⟩))), h ++ [.cells g T cs]⟩) : WL none P C ops Q (o :: rest) ⟨f, h⟩ :=
  ⟨awl_box (s := ⟨f, h⟩) hg ho (by show (evalT f x).flat = true; rw [hx]; rfl) fun g => by rw [hd, putT_upd hN]; show AWL P C ops Q rest ⟨_, h ++ [.cells g T (evalT f x).cells]⟩; rw [hx]; exact (k g).run⟩
theorem sBox1 {T : TypeId} {x : Operand} {c : AV} {d : Nat} (hg : o.guard = none) (hd : o.dst = some d) (hN : Nat.blt d C.N = true) (ho : o.op = .box T x) (hx : evalT f x = c) (h1 : c.one = true)
    (k : ∀ g, WL none P C ops Q rest ⟨upd f d (.x (.pointer (some ⟨g, 0, none⟩))), h ++ [.cells g T [c]]⟩) : WL none P C ops Q (o :: rest) ⟨f, h⟩ := by
  have hf : c.flat = true := by cases c <;> first | rfl | exact h1 | cases h1
  have hc : c.cells = [c] := by cases c <;> first | rfl | cases h1
  exact ⟨awl_box (s := ⟨f, h⟩) hg ho (by show (evalT f x).flat = true; rw [hx]; exact hf) fun g => by rw [hd, putT_upd hN]; show AWL P C ops Q rest ⟨_, h ++ [.cells g T (evalT f x).cells]⟩; rw [hx, hc]; exact (k g).run⟩
/-- A store of a struct or an array. -/
theorem sStore {T : TypeId} {x y : Operand} {g off : Nat} (i : Nat) {T' : TypeId} {cs news : List AV} {b : Bool} {kk : Nat} (hg : o.guard = none) (hd : o.dst = none) (ho : o.op = .store T x y) (hx : evalT f x = .x (.pointer (some ⟨g, off, none⟩))) (hi : h[i]? = some (.cells g T' cs)) (ht : tyOf P T = some (b, kk))
    (hy : evalT f y = .agg news) (h1 : AV.ones news = true) (hk : news.length = kk) (hoff : off + kk ≤ cs.length)
    (k : WL none P C ops Q rest ⟨f, h.set i (.cells g T' (spl cs off news))⟩) : WL none P C ops Q (o :: rest) ⟨f, h⟩ :=
  ⟨awl_store (s := ⟨f, h⟩) hg ho hx hi ht (by show (evalT f y).flat = true; rw [hy]; rfl) (by show AV.ones (evalT f y).cells = true; rw [hy]; exact h1) (by show (evalT f y).cells.length = kk; rw [hy]; exact hk) hoff (by
    rw [hd]; show AWL P C ops Q rest ⟨f, h.set i (.cells g T' (spl cs off (evalT f y).cells))⟩; rw [hy]; exact k.run)⟩
theorem spl_one {α : Type} {cs : List α} {off : Nat} {c : α} (h : off < cs.length) : spl cs off [c] = cs.set off c := by
  apply List.ext_getElem?
  intro j
  rw [spl_get (by simp; omega), List.getElem?_set]
  simp only [List.length_singleton]
  by_cases h1 : j < off
  · rw [if_pos h1, if_neg (by omega)]
  · by_cases h2 : off = j
    · subst h2; simp [h]
    · rw [if_neg h1, if_neg (by omega), if_neg h2]
/-- A store of one cell. -/
theorem sStore1 {T : TypeId} {x y : Operand} {g off : Nat} (i : Nat) {T' : TypeId} {cs : List AV} {c : AV} {b : Bool} (hg : o.guard = none) (hd : o.dst = none) (ho : o.op = .store T x y) (hx : evalT f x = .x (.pointer (some ⟨g, off, none⟩))) (hi : h[i]? = some (.cells g T' cs)) (ht : tyOf P T = some (b, 1))
    (hy : evalT f y = c) (h1 : c.one = true) (hoff : off < cs.length)
    (k : WL none P C ops Q rest ⟨f, h.set i (.cells g T' (cs.set off c))⟩) : WL none P C ops Q (o :: rest) ⟨f, h⟩ := by
  have hf : c.flat = true := by cases c <;> first | rfl | exact h1 | cases h1
  have hc : c.cells = [c] := by cases c <;> first | rfl | cases h1
  exact ⟨awl_store (s := ⟨f, h⟩) hg ho hx hi ht (by show (evalT f y).flat = true; rw [hy]; exact hf) (by show AV.ones (evalT f y).cells = true; rw [hy, hc]; simp [AV.ones, h1]) (by show (evalT f y).cells.length = 1; rw [hy, hc]; rfl) (by omega) (by
    rw [hd]; show AWL P C ops Q rest ⟨f, h.set i (.cells g T' (spl cs off (evalT f y).cells))⟩; rw [hy, hc, spl_one hoff]; exact k.run)⟩
theorem sAppend {t e : TypeId} {x y : Operand} (i : Nat) {v : Value} {kk n mm bytes d : Nat} {cs news : List AV} (hg : o.guard = none) (hd : o.dst = some d) (hN : Nat.blt d C.N = true) (ho : o.op = .call { callee := .builtin .append, args := #[x, y], argTypes := #[t, t] }) (ht : P.underlying t = some (.slice e)) (he : rowOf P e = some (kk, bytes))
    (hx : evalT f x = .x v) (hi : h[i]? = some (.row v e kk n cs)) (hy : evalT f y = .sl kk mm news) (h1 : AV.ones news = true) (hb : (n + mm) * bytes ≤ 140737488355328) (h63 : n + mm ≤ 9223372036854775807)
    (k : ∀ v', WL none P C ops Q rest ⟨upd f d (.x v'), h.set i (.row v' e kk (n + mm) (cs ++ news))⟩) : WL none P C ops Q (o :: rest) ⟨f, h⟩ :=
  ⟨awl_append (s := ⟨f, h⟩) hg ho ht he hx hi hy h1 hb h63 fun v' => by rw [hd, putT_upd hN]; exact (k v').run⟩
theorem sNilrow (e : TypeId) (k : Nat) (kk : WL none P C ops Q rest ⟨f, h ++ [.row (.slice none 0 0) e k 0 []]⟩) : WL none P C ops Q rest ⟨f, h⟩ := ⟨awl_nilrow (s := ⟨f, h⟩) e k kk.run⟩
theorem wNilrow {c : Code} (e : TypeId) (k : Nat) (kk : W P C c Q ⟨f, h ++ [.row (.slice none 0 0) e k 0 []]⟩) : W P C c Q ⟨f, h⟩ := ⟨aw_nilrow (s := ⟨f, h⟩) e k kk.run⟩
theorem sFreeze (i t : Nat) {v : Value} {e : TypeId} {k n : Nat} {cs : List AV} (hi : h[i]? = some (.row v e k n cs)) (ht : f t = .x v) (kk : WL none P C ops Q rest ⟨upd f t (.sl k n cs), h.set i .dead⟩) : WL none P C ops Q rest ⟨f, h⟩ := ⟨awl_freeze (s := ⟨f, h⟩) i t hi ht kk.run⟩
theorem wFreeze {c : Code} (i t : Nat) {v : Value} {e : TypeId} {k n : Nat} {cs : List AV} (hi : h[i]? = some (.row v e k n cs)) (ht : f t = .x v) (kk : W P C c Q ⟨upd f t (.sl k n cs), h.set i .dead⟩) : W P C c Q ⟨f, h⟩ := ⟨aw_freeze (s := ⟨f, h⟩) i t hi ht kk.run⟩

/-- A loop: l holds at its head, and h' of the blocks, with the measure. -/
theorem wLoop {c : Code} (I : Nat → List (Nat × AV) → List HObj → Prop) (h0 : ∃ mm l h' r, I mm l h' ∧ AllEq f l ∧ h = h' ++ r)
    (hr : ∀ mm l h, I mm l h → W P C c (thenW (fun s' => ∃ m' l' h' r, m' < mm ∧ I m' l' h' ∧ AllEq s'.t l' ∧ s'.h = h' ++ r) Q) ⟨tab l, h⟩) : W P C (.loop c) Q ⟨f, h⟩ := by
  refine ⟨aw_loop (fun mm s => ∃ l, s.t = tab l ∧ I mm l s.h) ?_ fun mm s hI => ?_⟩
  · obtain ⟨mm, l, h', r, hi, ha, hh⟩ := h0
    exact ⟨mm, ⟨tab l, h'⟩, ⟨l, rfl, hi⟩, wk_tab (s := ⟨f, h⟩) hh ha⟩
  · obtain ⟨l, hl, hi⟩ := hI
    have := (hr mm l s.h hi).run
    have e : s = ⟨tab l, s.h⟩ := by cases s; simp only at hl; subst hl; rfl
    rw [e]
    refine aw_mono this fun e s' hq => ?_
    cases e with
    | normal =>
      obtain ⟨m', l', h', r, h1, h2, h3, h4⟩ := hq
      exact ⟨m', ⟨tab l', h'⟩, h1, ⟨l', rfl, h2⟩, wk_tab h4 h3⟩
    | _ => exact hq
/-- A cut: behind a piece of code, l holds, and h' of the blocks. -/
theorem wCut {x y : Code} (M : List (Nat × AV) → List HObj → Prop) (k : W P C x (thenW (fun s' => ∃ l' h' r, M l' h' ∧ AllEq s'.t l' ∧ s'.h = h' ++ r) Q) s) (hy : ∀ l h, M l h → W P C y Q ⟨tab l, h⟩) : W P C (.seq x y) Q s :=
  ⟨aw_cut (fun s => ∃ l, s = ⟨tab l, s.h⟩ ∧ M l s.h) (aw_mono k.run fun e s' hq => by
    cases e with
    | normal =>
      obtain ⟨l', h', r, h1, h2, h3⟩ := hq
      exact ⟨⟨tab l', h'⟩, ⟨l', rfl, h1⟩, wk_tab h3 h2⟩
    | _ => exact hq) fun s ⟨l, hl, hm⟩ => by rw [hl]; exact (hy l s.h hm).run⟩
/-- Only these slots matter, and these blocks. -/
theorem wKeep {c : Code} (l : List (Nat × AV)) (h' r : List HObj) (ha : AllEq f l) (hh : h = h' ++ r) (k : W P C c Q ⟨tab l, h'⟩) : W P C c Q ⟨f, h⟩ := ⟨aw_weaken (wk_tab (s := ⟨f, h⟩) hh ha) k.run⟩

/-- Moves, by what they move. -/
theorem pM {x : Operand} {v : Value} {K : Prop} {N : Nat} {X : Nat → Prop} (ho : o.op = .move x) (hx : evalT f x = .x v) : PureOp P K N X h f o (.x v) := hx ▸ p_move ho
theorem pMs {x : Operand} {k n : Nat} {cs : List AV} {K : Prop} {N : Nat} {X : Nat → Prop} (ho : o.op = .move x) (hx : evalT f x = .sl k n cs) : PureOp P K N X h f o (.sl k n cs) := hx ▸ p_move ho
theorem pMa {x : Operand} {cs : List AV} {K : Prop} {N : Nat} {X : Nat → Prop} (ho : o.op = .move x) (hx : evalT f x = .agg cs) : PureOp P K N X h f o (.agg cs) := hx ▸ p_move ho
theorem pMt {x : Operand} {cs : List AV} {K : Prop} {N : Nat} {X : Nat → Prop} (ho : o.op = .move x) (hx : evalT f x = .tup cs) : PureOp P K N X h f o (.tup cs) := hx ▸ p_move ho
theorem pMi {x : Operand} {cs : List AV} {K : Prop} {N : Nat} {X : Nat → Prop} (ho : o.op = .move x) (hx : evalT f x = .ip cs) : PureOp P K N X h f o (.ip cs) := hx ▸ p_move ho
theorem pMf {x : Operand} {g : FuncId} {cs : List AV} {K : Prop} {N : Nat} {X : Nat → Prop} (ho : o.op = .move x) (hx : evalT f x = .fn g cs) : PureOp P K N X h f o (.fn g cs) := hx ▸ p_move ho
theorem pAf {x : Operand} {g : FuncId} {cs : List AV} {K : Prop} {N : Nat} {X : Nat → Prop} (ho : o.op = .assign x) (hx : evalT f x = .fn g cs) : PureOp P K N X h f o (.fn g cs) := hx ▸ p_assign ho
theorem pA {x : Operand} {v : Value} {K : Prop} {N : Nat} {X : Nat → Prop} (ho : o.op = .assign x) (hx : evalT f x = .x v) : PureOp P K N X h f o (.x v) := hx ▸ p_assign ho
theorem pAs {x : Operand} {k n : Nat} {cs : List AV} {K : Prop} {N : Nat} {X : Nat → Prop} (ho : o.op = .assign x) (hx : evalT f x = .sl k n cs) : PureOp P K N X h f o (.sl k n cs) := hx ▸ p_assign ho
theorem pAa {x : Operand} {cs : List AV} {K : Prop} {N : Nat} {X : Nat → Prop} (ho : o.op = .assign x) (hx : evalT f x = .agg cs) : PureOp P K N X h f o (.agg cs) := hx ▸ p_assign ho

/-- An element of a slice of things, and what is read there. -/
theorem drop_flatMap {α : Type} {enc : α → List AV} {k : Nat} (hk : ∀ x, (enc x).length = k) : ∀ {l : List α} {i : Nat} {x : α}, l[i]? = some x → (l.flatMap enc).drop (i * k) = enc x ++ (l.drop (i + 1)).flatMap enc
  | [], i, x, h => by simp at h
  | y :: l, 0, x, h => by
    obtain rfl : y = x := by simpa using h
    simp
  | y :: l, i + 1, x, h => by
    have := drop_flatMap hk (l := l) (i := i) (x := x) (by simpa using h)
    rw [List.flatMap_cons, show (i + 1) * k = (enc y).length + i * k by rw [hk, Nat.add_mul, Nat.one_mul, Nat.add_comm], List.drop_append, List.drop_eq_nil_of_le (by omega), List.nil_append, Nat.add_sub_cancel_left, this]
    simp
theorem pIdx {α : Type} {enc : α → List AV} {K : Prop} {N : Nat} {X : Nat → Prop} {t e : TypeId} {x y : Operand} {k n : Nat} {l : List α} {a : α} (i : Nat) {b : Bool} {ik : IntKind} {z : Int} (ho : o.op = .indexAddr t x y) (hx : evalT f x = .sl k n (l.flatMap enc)) (ht : P.underlying t = some (.slice e)) (he : tyOf P e = some (b, k)) (hk : k ≠ 0)
    (hy : evalT f y = .x (.int ik z)) (hl : ∀ x, (enc x).length = k) (hn : n = l.length) (hz : z = (i : Int)) (hi : l[i]? = some a) : PureOp P K N X h f o (.ip (enc a ++ (l.drop (i + 1)).flatMap enc)) := by
  have := p_indexAddr_sl (K := K) (N := N) (X := X) (h := h) ho hx ht he hk hy hz (by rw [hn]; exact (List.getElem?_eq_some_iff.1 hi).1)
  rw [drop_flatMap hl hi] at this
  exact this
theorem pLdE {K : Prop} {N : Nat} {X : Nat → Prop} {t : TypeId} {x : Operand} {cs ds : List AV} {k : Nat} (ho : o.op = .load t x) (hx : evalT f x = .ip (cs ++ ds)) (ht : tyOf P t = some (true, k)) (hl : cs.length = k) : PureOp P K N X h f o (.agg cs) :=
  p_load_ip ho hx ht (.inl ⟨rfl, by simp; omega, by rw [← hl]; simp⟩)
theorem pLd1 {K : Prop} {N : Nat} {X : Nat → Prop} {t : TypeId} {x : Operand} {c : AV} {ds : List AV} (ho : o.op = .load t x) (hx : evalT f x = .ip (c :: ds)) (ht : tyOf P t = some (false, 1)) : PureOp P K N X h f o c :=
  p_load_ip ho hx ht (.inr ⟨rfl, rfl⟩)
theorem pLdO1 {K : Prop} {N : Nat} {X : Nat → Prop} {t : TypeId} {x : Operand} {g off : Nat} (i : Nat) {T : TypeId} {cs : List AV} {c : AV} (ho : o.op = .load t x) (hx : evalT f x = .x (.pointer (some ⟨g, off, none⟩))) (hm : h[i]? = some (.cells g T cs)) (ht : tyOf P t = some (false, 1)) (hc : cs[off]? = some c) : PureOp P K N X h f o c :=
  p_load_own ho hx (List.mem_of_getElem? hm) ht (.inr ⟨rfl, by simpa using hc⟩)
theorem pLdO {K : Prop} {N : Nat} {X : Nat → Prop} {t : TypeId} {x : Operand} {g off k : Nat} (i : Nat) {T : TypeId} {cs res : List AV} (ho : o.op = .load t x) (hx : evalT f x = .x (.pointer (some ⟨g, off, none⟩))) (hm : h[i]? = some (.cells g T cs)) (ht : tyOf P t = some (true, k)) (hk : off + k ≤ cs.length) (hr : (cs.drop off).take k = res) : PureOp P K N X h f o (.agg res) :=
  p_load_own ho hx (List.mem_of_getElem? hm) ht (.inl ⟨rfl, by simp; omega, by rw [hr]⟩)
theorem pLdW {K : Prop} {N : Nat} {X : Nat → Prop} {t : TypeId} {x : Operand} {g k : Nat} (i : Nat) {T : TypeId} {cs : List AV} (ho : o.op = .load t x) (hx : evalT f x = .x (.pointer (some ⟨g, 0, none⟩))) (hm : h[i]? = some (.cells g T cs)) (ht : tyOf P t = some (true, k)) (hk : cs.length = k) : PureOp P K N X h f o (.agg cs) :=
  pLdO i ho hx hm ht (by omega) (by simp [← hk])
end

/-- The walk's start. -/
theorem pfn {P : Program} {K : Prop} {g : FuncId} {fn : Func} {c : Code} {avs : List AV} {av : AV} (hf : P.funcs[g]? = some fn) (hb : fn.body = some c) (hn : (fn.name == "runtime.NumGoroutine") = false) (N : Nat) (hN : fn.ntmps = N) (rs : Array ResultVar) (hrs : fn.results = rs) (hl : avs.length ≤ N)
    (H : ∀ (X : Nat → Prop) (w0 : World), W P ⟨N, X, ⟨w0, fun _ => False, K⟩⟩ c (Ends P ⟨N, X, ⟨w0, fun _ => False, K⟩⟩ rs av) ⟨args0 avs, []⟩) : PFn P K g avs av := pfn_of hf hb hn N hN rs hrs hl fun X w0 => (H X w0).run
end Go.Proofs.Ytmhkalalcmkpbaa

namespace Go.Proofs.Ytmhkalalcmkpbaa
open Go Go.RowKit
set_option linter.unusedVariables false
set_option linter.unusedSimpArgs false

mutual
def AV.ex : AV → Bool
  | .x _ => true
  | .agg cs => AV.exL cs
  | .tup cs => AV.exL cs
  | _ => false
def AV.exL : List AV → Bool
  | [] => true
  | c :: cs => c.ex && AV.exL cs
end
mutual
def AV.val : AV → Value
  | .x v => v
  | .agg cs => .agg (AV.vals cs).toArray
  | .tup cs => .tuple (AV.vals cs).toArray
  | _ => undef
def AV.vals : List AV → List Value
  | [] => []
  | c :: cs => c.val :: AV.vals cs
end
mutual
theorem AV.rep_val {O : Nat → Prop} {w : World} : ∀ (a : AV), a.ex = true → ∀ v, Rep O w a v ↔ v = a.val
  | .x u, _, v => by simp only [Rep, AV.val]
  | .agg cs, h, v => by
    simp only [AV.ex] at h
    simp only [Rep, AV.val]
    constructor
    · rintro ⟨us, rfl, h1, h2⟩
      have := (AV.repC_vals_ cs h us.toList (by simpa using h1)).1 (by
        have e : (fun j => us.toList[j]?) = (fun j => us[j]?) := funext fun j => Array.getElem?_toList
        rw [e]; exact h2)
      rw [← this]
    · rintro rfl
      refine ⟨_, rfl, ?_, ?_⟩
      · simp [AV.vals_len cs]
      · have := (AV.repC_vals_ (O := O) (w := w) cs h (AV.vals cs) (AV.vals_len cs)).2 rfl
        have e : (fun j => (AV.vals cs).toArray[j]?) = (fun j => (AV.vals cs)[j]?) := funext fun j => List.getElem?_toArray
        rw [e]; exact this
  | .tup cs, h, v => by
    simp only [AV.ex] at h
    simp only [Rep, AV.val]
    constructor
    · rintro ⟨us, rfl, h1, h2⟩
      have := (AV.repC_vals_ cs h us.toList (by simpa using h1)).1 (by
        have e : (fun j => us.toList[j]?) = (fun j => us[j]?) := funext fun j => Array.getElem?_toList
        rw [e]; exact h2)
      rw [← this]
    · rintro rfl
      refine ⟨_, rfl, ?_, ?_⟩
      · simp [AV.vals_len cs]
      · have := (AV.repC_vals_ (O := O) (w := w) cs h (AV.vals cs) (AV.vals_len cs)).2 rfl
        have e : (fun j => (AV.vals cs).toArray[j]?) = (fun j => (AV.vals cs)[j]?) := funext fun j => List.getElem?_toArray
        rw [e]; exact this
  | .sl _ _ _, h, _ => by cases h
  | .ip _, h, _ => by cases h
  | .fn _ _, h, _ => by cases h
  | .any, h, _ => by cases h
theorem AV.vals_len : ∀ (cs : List AV), (AV.vals cs).length = cs.length
  | [] => rfl
  | c :: cs => by simp only [AV.vals, List.length_cons, AV.vals_len cs]
theorem AV.repC_vals_ {O : Nat → Prop} {w : World} : ∀ (cs : List AV), AV.exL cs = true → ∀ us : List Value, us.length = cs.length → (RepC O w cs (fun j => us[j]?) ↔ us = AV.vals cs)
  | [], _, us, hl => by
    have : us = [] := List.eq_nil_of_length_eq_zero (by simpa using hl)
    subst this
    simp [RepC, AV.vals]
  | c :: cs, h, us, hl => by
    simp only [AV.exL, Bool.and_eq_true] at h
    match us, hl with
    | u :: us, hl =>
      have ih := AV.repC_vals_ (O := O) (w := w) cs h.2 us (by simpa using hl)
      have i1 := AV.rep_val (O := O) (w := w) c h.1 u
      simp only [RepC, AV.vals, List.cons.injEq]
      constructor
      · rintro ⟨⟨u', hu, hr⟩, h2⟩
        obtain rfl : u = u' := by simpa using hu
        exact ⟨i1.1 hr, ih.1 (by simpa using h2)⟩
      · rintro ⟨h1, h2⟩
        exact ⟨⟨u, rfl, i1.2 h1⟩, by simpa using ih.2 h2⟩
end

/-- A contract that was shown at values known just. -/
theorem pfn_ex {P : Program} {K : Prop} {g : FuncId} {avs : List AV} {av : AV} (h1 : AV.exL avs = true) (h2 : av.ex = true) (he : ∀ (args : Array Value) (w : World), (callFunc g args).run P w = .ok (.enter g args) w)
    (hc : ∀ w, Calls P g (AV.vals avs).toArray w fun e w' => e = .returned av.val ∧ Bl K w w') : PFn P K g avs av :=
  ⟨he, fun O w args hO hl hr => by
    have := (AV.repC_vals_ (O := O) (w := w) avs h1 args.toList (by simpa using hl)).1 (by
      have e : (fun j => args.toList[j]?) = (fun j => args[j]?) := funext fun j => Array.getElem?_toList
      rw [e]; exact hr)
    have e2 : args = (AV.vals avs).toArray := by rw [← this]
    rw [e2]
    exact (hc w).mono fun e w' ⟨h3, h4⟩ => ⟨_, h3, (AV.rep_val av h2 _).2 rfl, h4⟩⟩

/-- A function that may write the blocks that it is handed (h), and gives back others (as R says). -/
structure MFn (P : Program) (K : Prop) (g : FuncId) (avs : List AV) (h : List HObj) (R : AV → List HObj → Prop) : Prop where
  enter : ∀ (args : Array Value) (w : World), (callFunc g args).run P w = .ok (.enter g args) w
  calls : ∀ (O : Nat → Prop) (w : World) (args : Array Value), Env O ⟨w, fun b => ∃ o ∈ h, o.blk = some b, K⟩ h w → args.size = avs.length → RepC (owned O h) w avs (fun j => args[j]?) →
    Calls P g args w fun e w' => ∃ r av h', e = .returned r ∧ R av h' ∧ Env O ⟨w, fun b => ∃ o ∈ h, o.blk = some b, K⟩ h' w' ∧ Rep (owned O h') w' av r

/-- One result of such a function. -/
def RGm (P : Program) (N : Nat) (X : Nat → Prop) (s : AS) (h' : List HObj) (rs : Array ResultVar) (av : AV) : Prop := ∀ (w0 : Orig) (w : World) (a : Act), St N X w0 s a w → ∀ fn : Func, fn.results = rs → ∃ v, (results fn a.tmps).run P w = .ok v w ∧ Rep (owned X h') w av v
def EndsM (P : Program) (C : Cx) (rs : Array ResultVar) (R : AV → List HObj → Prop) : Exit → AS → Prop
  | .normal, s => ∃ av h' r, s.h = h' ++ r ∧ R av h' ∧ RGm P C.N C.X s h' rs av
  | .ret, s => ∃ av h' r, s.h = h' ++ r ∧ R av h' ∧ RGm P C.N C.X s h' rs av
  | _, _ => False
theorem owned_sub {X : Nat → Prop} {h' r : List HObj} {b : Nat} (hb : owned X h' b) : owned X (h' ++ r) b := owned_pre hb
theorem rgm_tmp {P : Program} {N : Nat} {X : Nat → Prop} {s : AS} {t : Nat} {av : AV} {h' r : List HObj} (hh : s.h = h' ++ r) (hg : Sub (s.t t) av) : RGm P N X s h' #[.tmp t] av := fun w0 w a hs fn hf =>
  ⟨a.tmps.getD t undef, by rw [results_eq, hf]; simp [rvRun], Rep.mono (Kept.refl _ _) (fun b _ hb => by rw [hh]; exact owned_pre hb) _ _ (hg _ _ _ (hs.slots.slot t))⟩
theorem rgm_none {P : Program} {N : Nat} {X : Nat → Prop} {s : AS} {h' : List HObj} : RGm P N X s h' #[] (.tup []) := fun w0 w a hs fn hf => ⟨.tuple #[], by rw [results_eq, hf]; simp, by simp only [Rep]; exact ⟨#[], rfl, rfl, by simp [RepC]⟩⟩
theorem rgm_tmp2 {P : Program} {N : Nat} {X : Nat → Prop} {s : AS} {t u : Nat} {a1 a2 : AV} {h' r : List HObj} (hh : s.h = h' ++ r) (hg : Sub (s.t t) a1) (hg2 : Sub (s.t u) a2) : RGm P N X s h' #[.tmp t, .tmp u] (.tup [a1, a2]) := fun w0 w a hs fn hf =>
  ⟨.tuple #[a.tmps.getD t undef, a.tmps.getD u undef], by rw [results_eq, hf]; simp [rvRun], by
    have m : ∀ {c : AV} {v : Value}, Rep (owned X s.h) w c v → Rep (owned X h') w c v := fun h => Rep.mono (Kept.refl _ _) (fun b _ hb => by rw [hh]; exact owned_pre hb) _ _ h
    simp only [Rep, RepC]
    exact ⟨_, rfl, rfl, ⟨_, rfl, m (hg _ _ _ (hs.slots.slot t))⟩, ⟨_, rfl, m (hg2 _ _ _ (hs.slots.slot u))⟩, trivial⟩⟩
theorem rgm_cell {P : Program} {N : Nat} {X : Nat → Prop} {s : AS} {t g : Nat} {T T' : TypeId} {cs : List AV} {k : Nat} {av : AV} {h' r : List HObj} (hh : s.h = h' ++ r) (hx : s.t t = .x (.pointer (some ⟨g, 0, none⟩))) (hm : HObj.cells g T' cs ∈ s.h) (ht : tyOf P T = some (true, k)) (hk : cs.length = k) (hg : Sub (.agg cs) av) : RGm P N X s h' #[.cell t T] av := fun w0 w a hs fn hf => by
  have h1 := hs.slots.slot t
  rw [hx, rep_x] at h1
  obtain ⟨v, hv, hr⟩ := run_load_c (av := .agg cs) ht (own_cells hs.env hm 0) (.inl ⟨rfl, by simp [hk], by simp [← hk]⟩)
  exact ⟨v, by rw [results_eq, hf]; simp [rvRun, h1, asAddr, hv], Rep.mono (Kept.refl _ _) (fun b _ hb => by rw [hh]; exact owned_pre hb) _ _ (hg _ _ _ hr)⟩

theorem mfn {P : Program} {K : Prop} {g : FuncId} {fn : Func} {c : Code} {avs : List AV} {h : List HObj} {R : AV → List HObj → Prop} (hf : P.funcs[g]? = some fn) (hb : fn.body = some c) (hn : (fn.name == "runtime.NumGoroutine") = false) (N : Nat) (hN : fn.ntmps = N) (rs : Array ResultVar) (hrs : fn.results = rs) (hl : avs.length ≤ N)
    (H : ∀ (X : Nat → Prop) (w0 : World), W P ⟨N, X, ⟨w0, fun b => ∃ o ∈ h, o.blk = some b, K⟩⟩ c (EndsM P ⟨N, X, ⟨w0, fun b => ∃ o ∈ h, o.blk = some b, K⟩⟩ rs R) ⟨args0 avs, h⟩) : MFn P K g avs h R := by
  refine ⟨enter_of hf hn (by rw [hb]; rfl), fun O w args env hsz hr => ?_⟩
  refine calls_of_wp hf hb ?_
  have hst : (Cx.mk N O ⟨w, fun b => ∃ o ∈ h, o.blk = some b, K⟩).St ⟨args0 avs, h⟩ { tmps := args ++ Array.replicate (fn.ntmps - args.size) undef, defers := [] } w := by
    refine ⟨env, rfl, ?_, fun t => ?_⟩
    · simp; omega
    · show Rep _ _ ((avs[t]?).getD .any) _
      cases hv : avs[t]? with
      | none => simp only [Option.getD_none, Rep]
      | some av =>
        obtain ⟨u, hu, hru⟩ := hr.at_ t av hv
        have hu' : args[t]? = some u := hu
        have hlt : t < args.size := (Array.getElem?_eq_some_iff.1 hu').1
        have e : (args ++ Array.replicate (fn.ntmps - args.size) undef).getD t undef = u := by
          rw [Array.getD_eq_getD_getElem?, Array.getElem?_append_left hlt, hu']; rfl
        simp only [Option.getD_some]
        show Rep _ _ _ ((args ++ Array.replicate (fn.ntmps - args.size) undef).getD t undef)
        rw [e]
        exact hru
  have fin : ∀ (s : AS) (a : Act) (w' : World), (Cx.mk N O ⟨w, fun b => ∃ o ∈ h, o.blk = some b, K⟩).St s a w' → (∃ av h' r, s.h = h' ++ r ∧ R av h' ∧ RGm P N O s h' rs av) →
      a.defers = [] ∧ ∃ v, (results fn a.tmps).run P w' = .ok v w' ∧ ∃ r av h', Ending.returned v = .returned r ∧ R av h' ∧ Env O ⟨w, fun b => ∃ o ∈ h, o.blk = some b, K⟩ h' w' ∧ Rep (owned O h') w' av r := by
    rintro s a w' hs ⟨av, h', r, h1, h2, h3⟩
    obtain ⟨v, hv, hr⟩ := h3 _ w' a hs fn hrs
    have env' := hs.env
    rw [h1] at env'
    exact ⟨hs.slots.defers, v, hv, v, av, h', rfl, h2, env'.pre, hr⟩
  refine wp_mono ((H O w).run _ w hst) fun e a w' ⟨s, hs, hq⟩ => ?_
  cases e with
  | normal => exact fin s a w' hs hq
  | ret => exact fin s a w' hs hq
  | _ => exact hq.elim

section
variable {P : Program} {C : Cx} {Q : Exit → AS → Prop} {f : Nat → AV} {h : List HObj} {ops : Array Oper} {o : Oper} {rest : List Oper}

/-- A call that makes blocks of the caller's own. -/
theorem sM0 {g : FuncId} {xs : Array Operand} {ts : Array TypeId} {avs : List AV} {R : AV → List HObj → Prop} {d : Nat} (hg : o.guard = none) (hd : o.dst = some d) (hN : Nat.blt d C.N = true) (ho : o.op = .call { callee := .value (.func g), args := xs, argTypes := ts }) (hp : MFn P C.w0.K g avs [] R) (hs : SubL (xs.toList.map (evalT f)) avs)
    (hR : ∀ av h', R av h' → ∃ p, h' = [p])
    (k : ∀ av p, R av [p] → WL none P C ops Q rest ⟨upd f d av, h ++ [p]⟩) : WL none P C ops Q (o :: rest) ⟨f, h⟩ := by
  refine ⟨fun a w hst => wpList_plain hg fun K hK => ?_⟩
  have env := hst.env
  have hr' : ∀ x ∈ xs.toList, Rep (owned C.X h) w (evalT f x) (a.eval x) := fun x _ => hst.slots.eval x
  have hrun : (execOp a.eval o).run P w = .ok (.enter g (xs.map a.eval)) w := by
    simp [execOp, ho, resolve, Act.eval, Deferred.ofValue, invoke, hp.enter]
  unfold Oper.wp
  rw [hrun]
  simp only [Oper.upon]
  have hl : (xs.map a.eval).size = avs.length := by rw [← hs.len]; simp
  have hR1 := args_repC (O := owned C.X h) (w := w) (a := a) hr' hs
  have e : (fun j => (xs.map a.eval)[j]?) = (fun j => (xs.toList.map a.eval)[j]?) := funext fun j => by rw [← Array.getElem?_toList, Array.toList_map]
  have hO : ∀ b, owned (owned C.X h) [] b ↔ owned C.X h b := fun b => ⟨fun hb => by rcases hb with hb | ⟨o, ho, _⟩; exact hb; simp at ho, .inl⟩
  have env0 : Env (owned C.X h) ⟨w, fun b => ∃ o ∈ ([] : List HObj), o.blk = some b, C.w0.K⟩ [] w := ⟨Chg.refl _ _ _, fun o ho => by simp at ho, fun o ho => by simp at ho, fun o ho => by simp at ho, fun b hb => ⟨owned_lt env hb, fun ⟨o, ho, _⟩ => by simp at ho⟩, fun i j o p b hi => by simp at hi⟩
  refine (hp.calls (owned C.X h) w (xs.map a.eval) env0 hl ?_).mono ?_
  · rw [e]; exact RepC.mono (Kept.refl _ _) (fun b _ hb => (hO b).1 hb) _ _ hR1
  · rintro e w' ⟨r, av, h', rfl, h2, env', h4⟩
    obtain ⟨p, rfl⟩ := hR av h' h2
    have hb : Bl C.w0.K w w' := ⟨⟨env'.below.os, env'.below.tape, env'.below.output, env'.below.size, fun k hk => env'.below.block k hk (fun ⟨o, ho, _⟩ => by simp at ho)⟩, env'.below.drawn⟩
    have hn : ∀ b, p.blk = some b → w.heap.size ≤ b ∧ b < w'.heap.size := fun b hb' => ⟨by
      rcases env'.new p (by simp) b hb' with h5 | ⟨o, ho, _⟩
      · exact h5
      · simp at ho, env'.lt p (by simp) b hb'⟩
    have hsub : ∀ b, owned C.X (h ++ [p]) b → owned (owned C.X h) [p] b := fun b hb' => by
      rcases hb' with hx | ⟨o, ho, hob⟩
      · exact .inl (.inl hx)
      · rcases List.mem_append.1 ho with ho | ho
        · exact .inl (.inr ⟨o, ho, hob⟩)
        · exact .inr ⟨o, ho, hob⟩
    have pok : p.ok (owned C.X (h ++ [p])) w' := HObj.ok_mono (env'.objs p (by simp)) (Kept.refl _ _) (fun b _ hb' => hsub b hb') fun _ _ => rfl
    refine hK _ _ ((k av p h2).run _ _ ⟨env.push hb pok hn, ?_⟩)
    have := (slots_push env hb hn hst.slots).put o.dst (Rep.mono (Kept.refl _ w') (fun b _ hb' => hsub b hb') _ _ h4)
    rw [hd, putT_upd hN] at this
    rw [hd]; exact this

/-- A call that is handed one of the caller's own blocks. -/
theorem sM1 {g : FuncId} {xs : Array Operand} {ts : Array TypeId} {avs : List AV} {ob : HObj} {R : AV → List HObj → Prop} (i : Nat) (hg : o.guard = none) (ho : o.op = .call { callee := .value (.func g), args := xs, argTypes := ts }) (hi : h[i]? = some ob) (hp : MFn P C.w0.K g avs [ob] R) (hs : SubL (xs.toList.map (evalT f)) avs)
    (hR : ∀ av h', R av h' → ∃ p, h' = [p])
    (k : ∀ av p, R av [p] → WL none P C ops Q rest ⟨putT C.N f o.dst av, h.set i p⟩) : WL none P C ops Q (o :: rest) ⟨f, h⟩ := by
  refine ⟨fun a w hst => wpList_plain hg fun K hK => ?_⟩
  have env := hst.env
  have hr' : ∀ x ∈ xs.toList, Rep (owned C.X h) w (evalT f x) (a.eval x) := fun x _ => hst.slots.eval x
  have hrun : (execOp a.eval o).run P w = .ok (.enter g (xs.map a.eval)) w := by
    simp [execOp, ho, resolve, Act.eval, Deferred.ofValue, invoke, hp.enter]
  unfold Oper.wp
  rw [hrun]
  simp only [Oper.upon]
  have hl : (xs.map a.eval).size = avs.length := by rw [← hs.len]; simp
  have hR1 := args_repC (O := owned C.X h) (w := w) (a := a) hr' hs
  have e : (fun j => (xs.map a.eval)[j]?) = (fun j => (xs.toList.map a.eval)[j]?) := funext fun j => by rw [← Array.getElem?_toList, Array.toList_map]
  have him : ob ∈ h := List.mem_of_getElem? hi
  have hil : i < h.length := (List.getElem?_eq_some_iff.1 hi).1
  -- what the callee takes for its callers' own
  let O' : Nat → Prop := owned C.X (h.set i .dead)
  have hO'X : ∀ b, O' b → owned C.X h b := fun b hb => by
    rcases hb with hx | ⟨o, ho, hob⟩
    · exact .inl hx
    · rcases List.mem_or_eq_of_mem_set ho with ho | rfl
      · exact .inr ⟨o, ho, hob⟩
      · cases hob
  have hO'ne : ∀ b, O' b → ob.blk ≠ some b := fun b hb hob => by
    rcases hb with hx | ⟨o, ho, hob'⟩
    · have h5 := env.ext b hx
      rcases env.new ob him b hob with h6 | h6
      · omega
      · exact h5.2 h6
    · obtain ⟨j, hj⟩ := List.mem_iff_getElem?.1 ho
      rw [List.getElem?_set] at hj
      simp only [hil, if_true] at hj
      split at hj
      · obtain rfl : HObj.dead = o := by simpa using hj
        cases hob'
      · rename_i hne
        exact hne (env.apart i j ob o b hi hj hob hob')
  have hsub1 : ∀ b, owned O' [ob] b → owned C.X h b := fun b hb => by
    rcases hb with hx | ⟨o, ho, hob⟩
    · exact hO'X b hx
    · obtain rfl : o = ob := by simpa using ho
      exact .inr ⟨o, him, hob⟩
  have env0 : Env O' ⟨w, fun b => ∃ o ∈ [ob], o.blk = some b, C.w0.K⟩ [ob] w := by
    refine ⟨Chg.refl _ _ _, fun o ho => ?_, fun o ho b hob => .inr ⟨o, ho, hob⟩, fun o ho b hob => ?_, fun b hb => ⟨owned_lt env (hO'X b hb), fun ⟨o, ho, hob⟩ => ?_⟩, fun i j o p b h1 h2 _ _ => ?_⟩
    · obtain rfl : o = ob := by simpa using ho
      exact HObj.ok_mono (env.objs o him) (Kept.refl _ _) (fun b _ hb => hsub1 b hb) fun _ _ => rfl
    · obtain rfl : o = ob := by simpa using ho
      exact env.lt o him b hob
    · obtain rfl : o = ob := by simpa using ho
      exact hO'ne b hb hob
    · have := (List.getElem?_eq_some_iff.1 h1).1
      have := (List.getElem?_eq_some_iff.1 h2).1
      simp at *; omega
  refine (hp.calls O' w (xs.map a.eval) env0 hl ?_).mono ?_
  · rw [e]; exact RepC.mono (Kept.refl _ _) (fun b _ hb => hsub1 b hb) _ _ hR1
  · rintro e w' ⟨r, av, h', rfl, h2, env', h4⟩
    obtain ⟨p, rfl⟩ := hR av h' h2
    have hgr : w.grownBy w' ob.blk := ⟨env'.below.os, env'.below.tape, env'.below.output, env'.below.size, fun k hk hne => env'.below.block k hk (fun ⟨o, ho, hob⟩ => by
      obtain rfl : o = ob := by simpa using ho
      exact hne hob.symm)⟩
    have hq : ∀ b, p.blk = some b → ob.blk = some b ∨ w.heap.size ≤ b := fun b hb => by
      rcases env'.new p (by simp) b hb with h5 | ⟨o, ho, hob⟩
      · exact .inr h5
      · obtain rfl : o = ob := by simpa using ho
        exact .inl hob
    have hsub2 : ∀ b, owned C.X (h.set i p) b → owned O' [p] b := fun b hb => by
      rcases hb with hx | ⟨o, ho, hob⟩
      · exact .inl (.inl hx)
      · obtain ⟨j, hj⟩ := List.mem_iff_getElem?.1 ho
        rw [List.getElem?_set] at hj
        simp only [hil, if_true] at hj
        split at hj
        · obtain rfl : p = o := by simpa using hj
          exact .inr ⟨p, by simp, hob⟩
        · rename_i hne
          refine .inl (.inr ⟨o, ?_, hob⟩)
          refine List.mem_iff_getElem?.2 ⟨j, ?_⟩
          rw [List.getElem?_set, if_neg hne]; exact hj
    have pok : p.ok (owned C.X (h.set i p)) w' := HObj.ok_mono (env'.objs p (by simp)) (Kept.refl _ _) (fun b _ hb' => hsub2 b hb') fun _ _ => rfl
    refine hK _ _ ((k av p h2).run _ _ ⟨env.set_ hi hgr env'.below.drawn pok hq (fun b hb => env'.lt p (by simp) b hb), ?_⟩)
    exact (slots_set env hi hgr hq hst.slots).put o.dst (Rep.mono (Kept.refl _ w') (fun b _ hb' => hsub2 b hb') _ _ h4)
end
end Go.Proofs.Ytmhkalalcmkpbaa
