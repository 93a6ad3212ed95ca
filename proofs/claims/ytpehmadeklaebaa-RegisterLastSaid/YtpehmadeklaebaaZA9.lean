/-
  A9
-/
import Derived.Test.YtpehmadeklaebaaZA8
namespace Go.Proofs.Ytpehmadeklaebaa
open Go Go.RowKit
set_option linter.unusedVariables false
set_option linter.unusedSimpArgs false

/-- No operation takes a draw back. -/
theorem view_drawn {P : Program} {w w' : World} {l : List Addr} {at_ : Addr} {u : TypeId} {k : Addr} {v : Value} {b : Bool} (h : w.viewStore P at_ u k v b = .ok (w', l)) : w'.drawn = w.drawn := by
  unfold World.viewStore at h
  simp only [bind, Except.bind, pure, Except.pure] at h
  repeat' (split at h)
  all_goals first
    | (cases h; done)
    | (injection h with h; injection h with h1 h2; rw [← h1])
theorem far_drawn {P : Program} {w w' : World} {l : List Addr} {a : Addr} {v : Value} {b : Bool} (h : w.farStore P a v b = .ok (w', l)) : w'.drawn = w.drawn := by
  unfold World.farStore at h
  repeat' (split at h)
  · rename_i r hr
    injection h with h; subst h
    exact view_drawn hr
  · cases h
  · cases h
theorem ask_drawn {α : Type} : ∀ (x : Ask α) (w : World), w.drawn ≤ (w.ask x).2.drawn
  | .done a, w => Nat.le_refl _
  | .ask what range k, w => by
    unfold World.ask
    simp only []
    split
    · exact ask_drawn (k 0) w
    · have hh := ask_drawn (k ((Question.extern what range).cut (w.tape w.drawn (Question.extern what range)))) { w with drawn := w.drawn + 1 }
      exact Nat.le_trans (Nat.le_succ _) hh
theorem sys_drawn (w : World) (c : Sys) : w.drawn ≤ (w.sys c).2.drawn := by
  have := ask_drawn (Kernel.perform c w.os) w
  unfold World.sys
  split
  · exact Nat.le_refl _
  · rename_i h
    rw [h] at this; exact this
theorem run_drawn {P : Program} {α : Type} (x : Sem α) : ∀ (w : World) {a : α} {w' : World}, x.run P w = .ok a w' → w.drawn ≤ w'.drawn := by
  induction x with
  | pure a => intro w a w' h; simp only [Sem.run, Result.ok.injEq] at h; rw [← h.2]; exact Nat.le_refl _
  | load m a k ih =>
    intro w b w' h
    simp only [Sem.run] at h
    repeat' (split at h)
    · (have hh := ih _ _ h; exact hh)
    · (have hh := ih _ _ h; exact hh)
    · cases h
  | store m a v k ih =>
    intro w b w' h
    cases v <;> simp only [Sem.run] at h <;> (try (cases h; done)) <;> (repeat' (split at h)) <;> first
      | (cases h; done)
      | (have hh := ih _ h; exact hh)
      | (rename_i hf; have := far_drawn hf; have := ih _ h; omega)
  | new o k ih => intro w b w' h; simp only [Sem.run] at h; (have hh := ih _ _ h; exact hh)
  | shape r k ih => intro w b w' h; simp only [Sem.run] at h; (have hh := ih _ _ h; exact hh)
  | freeze a n k ih =>
    intro w b w' h; simp only [Sem.run] at h
    have := ih _ h
    have e : (w.freeze a n).drawn = w.drawn := by unfold World.freeze; split <;> rfl
    omega
  | frozen a k ih => intro w b w' h; simp only [Sem.run] at h; (have hh := ih _ _ h; exact hh)
  | getObj r k ih =>
    intro w b w' h
    simp only [Sem.run] at h
    repeat' (split at h)
    · cases h
    · (have hh := ih _ _ h; exact hh)
    · cases h
  | setObj r o k ih =>
    intro w b w' h
    simp only [Sem.run] at h
    repeat' (split at h)
    · cases h
    · (have hh := ih _ h; exact hh)
    · cases h
  | choose q k ih =>
    intro w b w' h
    simp only [Sem.run] at h
    split at h
    · (have hh := ih _ _ h; exact hh)
    · exact Nat.le_trans (Nat.le_succ _) (ih _ _ h)
  | sys c k ih =>
    intro w b w' h; simp only [Sem.run] at h
    exact Nat.le_trans (sys_drawn w c) (ih _ _ h)
  | program k ih => intro w b w' h; simp only [Sem.run] at h; (have hh := ih _ _ h; exact hh)
  | mark m k ih => intro w b w' h; simp only [Sem.run] at h; (have hh := ih _ h; exact hh)
  | halt h => intro w a w' h; simp [Sem.run] at h

/-- Of an element type: how many cells, how many bytes. -/
def rowOf (P : Program) (e : TypeId) : Option (Nat × Nat) :=
  match P.info? e with
  | some i => match i.zero with
    | some z => bif Nat.beq z.cells.size i.size && Nat.blt 0 i.size then some (i.size, i.bytes) else none
    | none => none
  | none => none
theorem rowOf_spec {P : Program} {e : TypeId} {k b : Nat} (h : rowOf P e = some (k, b)) : ∃ i z, P.info? e = some i ∧ i.zero = some z ∧ i.size = k ∧ i.bytes = b ∧ z.cells.size = k ∧ 0 < k := by
  unfold rowOf at h
  cases hi : P.info? e with
  | none => simp [hi] at h
  | some i =>
    cases hz : i.zero with
    | none => simp [hi, hz] at h
    | some z =>
      simp only [hi, hz] at h
      cases hb : (Nat.beq z.cells.size i.size && Nat.blt 0 i.size) with
      | false => simp [hb] at h
      | true =>
        simp only [hb, cond_true, Option.some.injEq, Prod.mk.injEq] at h
        rw [Bool.and_eq_true] at hb
        have h1 := Nat.eq_of_beq_eq_true hb.1
        have h2 : 0 < i.size := by simpa [Nat.blt_eq] using hb.2
        exact ⟨i, z, rfl, hz, h.1, h.2, h1.trans h.1, h.1 ▸ h2⟩

/-- The values that lie where a slice's cells are. -/
theorem repC_vals {O : Nat → Prop} {w : World} : ∀ {cs : List AV} {g : Nat → Option Value}, RepC O w cs g → ∃ us : List Value, us.length = cs.length ∧ (∀ (j : Nat) u, us[j]? = some u → g j = some u) ∧ RepC O w cs (fun j => us[j]?)
  | [], g, h => ⟨[], rfl, fun j u hj => by simp at hj, by simp [RepC]⟩
  | c :: cs, g, h => by
    simp only [RepC] at h
    obtain ⟨⟨u, hu, hr⟩, h2⟩ := h
    obtain ⟨us, h3, h4, h5⟩ := repC_vals h2
    refine ⟨u :: us, by simp [h3], fun j v hj => ?_, ?_⟩
    · cases j with
      | zero => obtain rfl : u = v := by simpa using hj
                exact hu
      | succ j => exact h4 j v (by simpa using hj)
    · simp only [RepC]
      exact ⟨⟨u, rfl, hr⟩, by simpa using h5⟩

theorem zeros_toList (n : Nat) (z : Array Value) : ((Array.range n).map (z[· % z.size]!)).toList = (List.range n).map fun j => z[j % z.size]! := by simp

section
variable {P : Program} {K : Prop} {N : Nat} {X : Nat → Prop} {h : List HObj} {f : Nat → AV} {o : Oper}

def zcells (zs : List Value) (n : Nat) : List AV := (List.range n).map fun j => .x (zs[j % zs.length]!)

theorem run_buildSlice {O : Nat → Prop} {w : World} {a : Act} {t e : TypeId} {n k : Nat} {b : Bool} {parts : List (Nat × Operand)} {zs : List Value} {res : List AV} (ho : o.op = .buildSlice t n parts.toArray) (hz : tyZero P e = some zs) (ht : P.underlying t = some (.slice e)) (he : tyOf P e = some (b, k)) (hn : n * k ≤ 16777216) (hp : 0 < n * k) (hfl : flats f parts = true)
    (H : ∀ x ∈ o.op.operands.toList, Rep O w (evalT f x) (a.eval x))
    (hres : fillA (fun i => some (i * k, k)) (zcells zs (n * k)) (parts.map fun p => (p.1, evalT f p.2)) = some res) :
    ∃ vs : Array Value, (execOp a.eval o).run P w = .ok (.value (.slice (some ⟨w.heap.size, 0, none⟩) n n)) (w.alloc (.cells vs e)) ∧ vs.size = res.length ∧ RepC O w res (fun j => vs[j]?) := by
  rw [ho] at H
  obtain ⟨z, hz1, hz2⟩ := tyZero_spec hz w
  have hzl : (List.range (n * k)).map (fun j => z.cells[j % z.cells.size]!) = (List.range (n * k)).map fun j => zs[j % zs.length]! := by
    refine List.map_congr_left fun j _ => ?_
    rw [← hz2]; simp; rw [getElem!_def]; cases z.cells[j % z.cells.size]? <;> rfl
  obtain ⟨vs, h1, h2, h3⟩ := fillA_spec (O := O) (w := w) (ρ := a.eval) (f := f) (fun i => some (i * k, k)) (fun i => some (i * k, k)) (fun i => rfl) parts (zcells zs (n * k)) ((Array.range (n * k)).map (z.cells[· % z.cells.size]!)) res (by simp [zcells])
        (by have e : (fun j => ((Array.range (n * k)).map (z.cells[· % z.cells.size]!))[j]?) = (fun j => ((List.range (n * k)).map fun j => zs[j % zs.length]!)[j]?) := funext fun j => by rw [← Array.getElem?_toList, zeros_toList, hzl]
            rw [e]
            have := zero_rep (O := O) (w := w) ((List.range (n * k)).map fun j => zs[j % zs.length]!)
            simpa [zcells, List.map_map, Function.comp_def] using this)
        (fun p hp => ⟨H p.2 (by simp [Op.operands]; exact ⟨p.1, hp⟩), flats_spec hfl p hp⟩) hres
  refine ⟨vs, ?_, h2, h3⟩
  have h24 : ¬ (n * k > 2 ^ 24) := by simpa using hn
  have hne : ¬ (n * k = 0) := by omega
  simp only [execOp, ho, Instr.buildSlice, Sem.run_bind, Result.andThen_ok, run_underlying ht, run_sizeOf_ he, h24, hne, if_false, Sem.run_pure, hz1]
  have e : (parts.toArray.map fun (x : Nat × Operand) => (x.1, a.eval x.2)).toList = parts.map fun p => (p.1, a.eval p.2) := by simp
  rw [e, h1]
  simp [newRow]

/-- A slice literal that nobody writes. -/
theorem p_buildSlice {t e : TypeId} {n k : Nat} {b : Bool} {parts : List (Nat × Operand)} {zs : List Value} {res : List AV} (ho : o.op = .buildSlice t n parts.toArray) (hz : tyZero P e = some zs) (ht : P.underlying t = some (.slice e)) (he : tyOf P e = some (b, k)) (hn : n * k ≤ 16777216) (hp : 0 < n * k) (hfl : flats f parts = true)
    (hres : fillA (fun i => some (i * k, k)) (zcells zs (n * k)) (parts.map fun p => (p.1, evalT f p.2)) = some res) (hl : res.length = n * k) : PureOp P K N X h f o (.sl k n res) := pure_of fun a w w0 hK env H => by
  obtain ⟨vs, h1, h2, h3⟩ := run_buildSlice ho hz ht he hn hp hfl H hres
  have hb := below_alloc1 (K := K) w (.cells vs e)
  refine ⟨_, _, h1, hb, ?_⟩
  simp only [Rep]
  have hk : 0 < k := Nat.pos_of_mul_pos_left hp
  have hnn : n ≤ 16777216 := Nat.le_trans (Nat.le_mul_of_pos_right n hk) hn
  refine ⟨hl, _, n, rfl, Nat.le_refl _, by omega, .inr ⟨_, rfl, by simp, fun hx => ?_, ?_⟩⟩
  · have := owned_lt env hx
    simp at this
  · have h4 := RepC.mono (Kept.of_below hb.b) (fun _ _ h => h) _ _ h3
    have e : (fun j => (w.alloc (.cells vs e)).cell? ((⟨w.heap.size, 0, none⟩ : Addr).add j)) = (fun j => vs[j]?) := funext fun j => by
      rw [add_plain]; simp only [World.cell?, heap_alloc_new w (.cells vs e)]; simp
    rw [e]; exact h4

/-- A cut of a slice that nobody writes. -/
theorem rep_cut {O : Nat → Prop} {w : World} {k n lo hi c : Nat} {A : Option Addr} {cs : List AV} {cap : Nat} (hr : Rep O w (.sl k n cs) (.slice A n c)) (h1 : lo ≤ hi) (h2 : hi ≤ n) (h3 : hi ≤ cap) (h4 : cap ≤ 9223372036854775807) :
    Rep O w (.sl k (hi - lo) ((cs.take (hi * k)).drop (lo * k))) (.slice (if cap = lo then A else A.map (·.add (lo * k))) (hi - lo) (cap - lo)) := by
  simp only [Rep] at hr ⊢
  obtain ⟨hl, A', c', e, hnc, hcm, hor⟩ := hr
  injection e with e1 e2 e3
  subst e1 e3
  have hle : hi * k ≤ n * k := Nat.mul_le_mul_right k h2
  refine ⟨by rw [List.length_drop, List.length_take, hl, Nat.min_eq_left hle, Nat.sub_mul], _, _, rfl, by omega, by omega, ?_⟩
  by_cases hz : (hi - lo) * k = 0
  · exact .inl hz
  · rcases hor with h0 | ⟨ad, rfl, hb, hO, hc⟩
    · exfalso; apply hz
      rcases Nat.mul_eq_zero.1 h0 with h0 | h0
      · rw [show hi - lo = 0 by omega]; simp
      · rw [h0]; simp
    · have hlt : lo < hi := by
        rcases Nat.lt_or_ge lo hi with h | h
        · exact h
        · exfalso; apply hz; rw [show hi - lo = 0 by omega]; simp
      rw [if_neg (by omega)]
      refine .inr ⟨ad.add (lo * k), rfl, by rw [block_of_add]; exact hb, by rw [block_of_add]; exact hO, ?_⟩
      have := (hc.take (hi * k)).drop (lo * k)
      have e : (fun j => w.cell? ((ad.add (lo * k)).add j)) = (fun j => w.cell? (ad.add (lo * k + j))) := funext fun j => by rw [add_of_add]
      rw [e]; exact this

def boundOf (f : Nat → AV) (d : Nat) : Option Operand → Nat → Prop
  | none, n => n = d
  | some x, n => ∃ ik z, evalT f x = .x (.int ik z) ∧ z = (n : Int)

theorem p_slice_sl {t e : TypeId} {x : Operand} {lo hi : Option Operand} {k n l r : Nat} {b : Bool} {cs : List AV} (ho : o.op = .slice t x lo hi none) (hx : evalT f x = .sl k n cs) (ht : P.underlying t = some (.slice e)) (he : tyOf P e = some (b, k)) (hlo : boundOf f 0 lo l) (hhi : boundOf f n hi r) (h1 : l ≤ r) (h2 : r ≤ n) :
    PureOp P K N X h f o (.sl k (r - l) ((cs.take (r * k)).drop (l * k))) := pure_run fun a w w0 env H => by
  rw [ho] at H
  have hx1 := H x (by simp [Op.operands])
  rw [hx] at hx1
  have hx2 := hx1
  simp only [Rep] at hx2
  obtain ⟨hl, A, c, e1, hnc, hcm, _⟩ := hx2
  rw [e1] at hx1
  have hlo' : ∀ v, lo.map a.eval = some v → ∃ ik, v = .int ik (l : Int) := fun v hv => by
    cases lo with
    | none => cases hv
    | some y =>
      obtain ⟨ik, z, hy, rfl⟩ := hlo
      have := H y (by simp [Op.operands])
      rw [hy, rep_x] at this
      simp only [Option.map_some, Option.some.injEq] at hv
      exact ⟨ik, by rw [← hv, this]⟩
  have hhi' : ∀ v, hi.map a.eval = some v → ∃ ik, v = .int ik (r : Int) := fun v hv => by
    cases hi with
    | none => cases hv
    | some y =>
      obtain ⟨ik, z, hy, rfl⟩ := hhi
      have := H y (by simp [Op.operands])
      rw [hy, rep_x] at this
      simp only [Option.map_some, Option.some.injEq] at hv
      exact ⟨ik, by rw [← hv, this]⟩
  refine ⟨.slice (if c = l then A else A.map (·.add (l * k))) (r - l) (c - l), ?_, rep_cut hx1 h1 h2 (by omega) hcm⟩
  have hb : (Instr.sliceBounds true n c (lo.map a.eval) (hi.map a.eval) none).run P w = .ok (l, r, c) w := by
    unfold Instr.sliceBounds
    cases hlv : lo.map a.eval with
    | none =>
      have hl0 : l = 0 := by cases lo with | none => exact hlo | some y => cases hlv
      subst hl0
      cases hhv : hi.map a.eval with
      | none =>
        have : r = n := by cases hi with | none => exact hhi | some y => cases hhv
        subst this; simp
      | some v =>
        obtain ⟨ik, rfl⟩ := hhi' v hhv
        have : (0 : Int) ≤ (r : Int) ∧ (r : Int) ≤ (c : Int) := by omega
        simp [Instr.sliceBound, asIntOf, show r ≤ c by omega]
    | some u =>
      obtain ⟨ik', rfl⟩ := hlo' u hlv
      cases hhv : hi.map a.eval with
      | none =>
        have : r = n := by cases hi with | none => exact hhi | some y => cases hhv
        subst this; simp [Instr.sliceBound, asIntOf, h1]
      | some v =>
        obtain ⟨ik, rfl⟩ := hhi' v hhv
        simp [Instr.sliceBound, asIntOf, h1, show r ≤ c by omega]
  have hu : (underlying t).run P w = .ok (.slice e) w := run_underlying ht w
  simp only [execOp, ho, Instr.sliceAt, Sem.run_bind, hu, Result.andThen_ok, Instr.slice, e1, Option.map_none, hb, run_sizeOf_ he, Sem.run_pure]
theorem p_slice_str {t : TypeId} {x : Operand} {lo hi : Option Operand} {l r : Nat} {s : ByteArray} (ho : o.op = .slice t x lo hi none) (hx : evalT f x = .x (.string s)) (ht : P.underlying t = some .string) (hlo : boundOf f 0 lo l) (hhi : boundOf f s.size hi r) (h1 : l ≤ r) (h2 : r ≤ s.size) :
    PureOp P K N X h f o (.x (.string (s.extract l r))) := pure_run fun a w w0 env H => by
  rw [ho] at H
  have hx1 := H x (by simp [Op.operands])
  rw [hx, rep_x] at hx1
  have hlo' : ∀ v, lo.map a.eval = some v → ∃ ik, v = .int ik (l : Int) := fun v hv => by
    cases lo with
    | none => cases hv
    | some y =>
      obtain ⟨ik, z, hy, rfl⟩ := hlo
      have := H y (by simp [Op.operands])
      rw [hy, rep_x] at this
      simp only [Option.map_some, Option.some.injEq] at hv
      exact ⟨ik, by rw [← hv, this]⟩
  have hhi' : ∀ v, hi.map a.eval = some v → ∃ ik, v = .int ik (r : Int) := fun v hv => by
    cases hi with
    | none => cases hv
    | some y =>
      obtain ⟨ik, z, hy, rfl⟩ := hhi
      have := H y (by simp [Op.operands])
      rw [hy, rep_x] at this
      simp only [Option.map_some, Option.some.injEq] at hv
      exact ⟨ik, by rw [← hv, this]⟩
  refine ⟨.string (s.extract l r), ?_, rep_x.2 rfl⟩
  have hb : (Instr.sliceBounds false s.size s.size (lo.map a.eval) (hi.map a.eval) none).run P w = .ok (l, r, s.size) w := by
    unfold Instr.sliceBounds
    cases hlv : lo.map a.eval with
    | none =>
      have hl0 : l = 0 := by cases lo with | none => exact hlo | some y => cases hlv
      subst hl0
      cases hhv : hi.map a.eval with
      | none =>
        have : r = s.size := by cases hi with | none => exact hhi | some y => cases hhv
        subst this; simp
      | some v =>
        obtain ⟨ik, rfl⟩ := hhi' v hhv
        simp [Instr.sliceBound, asIntOf, h2]
    | some u =>
      obtain ⟨ik', rfl⟩ := hlo' u hlv
      cases hhv : hi.map a.eval with
      | none =>
        have : r = s.size := by cases hi with | none => exact hhi | some y => cases hhv
        subst this; simp [Instr.sliceBound, asIntOf, h1]
      | some v =>
        obtain ⟨ik, rfl⟩ := hhi' v hhv
        simp [Instr.sliceBound, asIntOf, h1, h2]
  have hu : (underlying t).run P w = .ok .string w := run_underlying ht w
  simp [execOp, ho, Instr.sliceAt, hu, Instr.slice, hx1, hb]
end

section
variable {P : Program} {C : Cx} {Q : Exit → AS → Prop} {s : AS} {ops : Array Oper} {o : Oper} {rest : List Oper}

/-- A nil slice is a row of nothing. -/
theorem st_nilrow {e : TypeId} {k : Nat} {a : Act} {w : World} (hs : C.St s a w) : C.St ⟨s.t, s.h ++ [.row (.slice none 0 0) e k 0 []]⟩ a w :=
  ⟨hs.env.push (Bl.refl _ _) ⟨[], World.ownsRow_nil _ _ _ _, rfl, by simp [RepC]⟩ (fun b hb => by cases hb), slots_push hs.env (Bl.refl _ _) (fun b hb => by cases hb) hs.slots⟩
theorem awl_nilrow {l : List Oper} (e : TypeId) (k : Nat) (kk : AWL P C ops Q l ⟨s.t, s.h ++ [.row (.slice none 0 0) e k 0 []]⟩) : AWL P C ops Q l s := fun a w hs => kk a w (st_nilrow hs)
/-- append to a row of the call's own. -/
theorem awl_append {t e : TypeId} {x y : Operand} {i : Nat} {v : Value} {k n m bytes : Nat} {cs news : List AV} (hg : o.guard = none) (ho : o.op = .call { callee := .builtin .append, args := #[x, y], argTypes := #[t, t] }) (ht : P.underlying t = some (.slice e)) (he : rowOf P e = some (k, bytes))
    (hx : evalT s.t x = .x v) (hi : s.h[i]? = some (.row v e k n cs)) (hy : evalT s.t y = .sl k m news) (h1 : AV.ones news = true) (hb : (n + m) * bytes ≤ 140737488355328) (h63 : n + m ≤ 9223372036854775807)
    (kk : ∀ v', AWL P C ops Q rest ⟨putT C.N s.t o.dst (.x v'), s.h.set i (.row v' e k (n + m) (cs ++ news))⟩) : AWL P C ops Q (o :: rest) s := by
  intro a w hs
  refine wpList_plain hg fun K hK => ?_
  obtain ⟨ti, z, g1, g2, g3, g4, g5, g6⟩ := rowOf_spec he
  have hxe := hs.slots.eval x
  rw [hx, rep_x] at hxe
  have hye := hs.slots.eval y
  rw [hy] at hye
  simp only [Rep] at hye
  obtain ⟨hl, A, c, e1, hnc, hcm, hor⟩ := hye
  obtain ⟨vs, hown, hvl, hvr⟩ := hs.env.objs _ (List.mem_of_getElem? hi)
  have hvals : ∃ us : List Value, us.length = news.length ∧ Reads w w.heap.size k A m us ∧ RepC (owned C.X s.h) w news (fun j => us[j]?) := by
    rcases hor with h0 | ⟨ad, rfl, hbl, hO, hc⟩
    · have hm0 : m = 0 := by
        rcases Nat.mul_eq_zero.1 h0 with h | h
        · exact h
        · omega
      subst hm0
      have : news = [] := List.eq_nil_of_length_eq_zero (by simpa using hl)
      subst this
      exact ⟨[], rfl, ⟨by simp, fun h => absurd h (by omega)⟩, by simp [RepC]⟩
    · obtain ⟨us, h2, h3, h4⟩ := repC_vals hc
      exact ⟨us, h2, ⟨by rw [h2, hl], fun _ => ⟨ad, rfl, hbl, h3⟩⟩, h4⟩
  obtain ⟨us, hul, hreads, hur⟩ := hvals
  have hone := AV.ones_spec h1 hul hur
  obtain ⟨v', w', hrun, hown', hgr, hblk⟩ := run_append_any (P := P) w 0 t o.type e ti z k bytes ht g1 g2 g3 g4 g5 g6 v n vs hown w.heap.size A m c us hreads hone (by simp only [maxLen]; omega) hb (Nat.zero_le _)
  have hdr : w.drawn ≤ w'.drawn := run_drawn _ w hrun
  have hrun2 : (execOp a.eval o).run P w = .ok (.value v') w' := by
    simp only [execOp, ho, resolve, invoke, builtin, Sem.run_bind, Sem.run_pure, Result.andThen_ok, List.map_toArray, List.map_cons, List.map_nil, hxe, e1, hrun]
  unfold Oper.wp
  rw [hrun2]
  refine hK _ _ (kk v' _ _ ?_)
  have hq : ∀ b, (HObj.row v' e k (n + m) (cs ++ news)).blk = some b → (HObj.row v e k n cs).blk = some b ∨ w.heap.size ≤ b := fun b hb => by
    simp only [HObj.blk] at hb ⊢
    rcases hblk with h | h
    · exact .inl (h ▸ hb)
    · rw [h] at hb; injection hb with hb; exact .inr (by omega)
  have hgr' : w.grownBy w' (HObj.row v e k n cs).blk := hgr
  have hO := owned_set hi hs.env hq
  have hkeep : Kept (owned C.X s.h) w w' := ⟨hgr.size, fun b hlt hO => hgr.block b hlt fun e => hO (.inr ⟨_, List.mem_of_getElem? hi, e.symm⟩)⟩
  refine ⟨hs.env.set_ hi hgr' (fun _ => hdr) ⟨vs ++ us, hown', by simp [hvl, hul], ?_⟩ hq (fun b hb => (hown'.lt b hb).2), (slots_set hs.env hi hgr' hq hs.slots).put o.dst (rep_x.2 rfl)⟩
  exact RepC.mono hkeep hO _ _ (RepC.append hvl hvr hur)
end
end Go.Proofs.Ytpehmadeklaebaa
