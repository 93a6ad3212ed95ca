/-
  A7
-/
import Derived.Test.YtpehmadeklaebaaZA6
import Derived.Laws.CopyRow
namespace Go.Proofs.Ytpehmadeklaebaa
open Go Go.RowKit
set_option linter.unusedVariables false
set_option linter.unusedSimpArgs false

/-- Cells put in place of others. -/
def spl {α : Type} (cs : List α) (off : Nat) (news : List α) : List α := cs.take off ++ news ++ cs.drop (off + news.length)
theorem spl_length {α : Type} {cs : List α} {off : Nat} {news : List α} (h : off + news.length ≤ cs.length) : (spl cs off news).length = cs.length := by
  unfold spl; simp; omega
theorem spl_get {α : Type} {cs : List α} {off : Nat} {news : List α} (h : off + news.length ≤ cs.length) (j : Nat) : (spl cs off news)[j]? = if j < off then cs[j]? else if j < off + news.length then news[j - off]? else cs[j]? := by
  unfold spl
  have hl : (cs.take off).length = off := by simp; omega
  rw [List.append_assoc, List.getElem?_append, hl]
  split
  · rw [List.getElem?_take, if_pos (by assumption)]
  · rw [List.getElem?_append]
    split
    · rw [if_pos (by omega)]
    · rw [if_neg (by omega), List.getElem?_drop]
      congr 1; omega
theorem RepC.spl_ {O : Nat → Prop} {w : World} {cs news : List AV} {us vs : List Value} {off : Nat} (h : off + news.length ≤ cs.length) (hu : us.length = cs.length) (hv : vs.length = news.length)
    (h1 : RepC O w cs (fun j => us[j]?)) (h2 : RepC O w news (fun j => vs[j]?)) : RepC O w (spl cs off news) (fun j => (spl us off vs)[j]?) := RepC.mk fun j c hj => by
  rw [spl_get h] at hj
  show ∃ u, (spl us off vs)[j]? = some u ∧ _
  rw [spl_get (by omega)]
  split at hj
  · rename_i hlt
    rw [if_pos hlt]; exact h1.at_ j c hj
  · rename_i hlt
    rw [if_neg hlt]
    split at hj
    · rename_i hlt2
      rw [if_pos (by omega)]; exact h2.at_ (j - off) c hj
    · rename_i hlt2
      rw [if_neg (by omega)]; exact h1.at_ j c hj

theorem RepC.append {O : Nat → Prop} {w : World} {cs ds : List AV} {us vs : List Value} (hu : us.length = cs.length) (h1 : RepC O w cs (fun j => us[j]?)) (h2 : RepC O w ds (fun j => vs[j]?)) : RepC O w (cs ++ ds) (fun j => (us ++ vs)[j]?) := RepC.mk fun j c hj => by
  rw [List.getElem?_append] at hj
  show ∃ u, (us ++ vs)[j]? = some u ∧ _
  rw [List.getElem?_append]
  split at hj
  · rename_i hlt
    rw [if_pos (by omega)]; exact h1.at_ j c hj
  · rename_i hlt
    rw [if_neg (by omega), hu]; exact h2.at_ _ c hj

/-- A value's cells. -/
theorem rep_cells {O : Nat → Prop} {w : World} {a : AV} {v : Value} (h : Rep O w a v) (ha : (∃ cs, a = .agg cs) ∨ a.one = true) : v.cells.toList.length = a.cells.length ∧ RepC O w a.cells (fun j => v.cells.toList[j]?) := by
  rcases ha with ⟨cs, rfl⟩ | h1
  · simp only [Rep] at h
    obtain ⟨us, rfl, h1, h2⟩ := h
    refine ⟨by simpa [Value.cells, AV.cells] using h1, ?_⟩
    have e : (fun j => (Value.agg us).cells.toList[j]?) = (fun j => us[j]?) := funext fun j => Array.getElem?_toList
    rw [e]; exact h2
  · have hv := h.one h1
    have e : v.cells = #[v] := by cases v <;> first | rfl | cases hv
    have e2 : a.cells = [a] := by cases a <;> first | rfl | cases h1
    rw [e, e2]
    refine ⟨rfl, ?_⟩
    simp only [RepC]
    exact ⟨⟨v, rfl, h⟩, trivial⟩

theorem zipIdx_fold (off : Nat) : ∀ (l : List Value) (st : Nat) (arr : Array Value), off + st + l.length ≤ arr.size →
    ((l.zipIdx st).foldl (fun cs (p : Value × Nat) => cs.setIfInBounds (off + p.2) p.1) arr).toList = spl arr.toList (off + st) l
  | [], st, arr, h => by simp [spl]
  | v :: l, st, arr, h => by
    simp only [List.length_cons] at h
    rw [List.zipIdx_cons, List.foldl_cons, zipIdx_fold off l (st + 1) _ (by simp; omega)]
    apply List.ext_getElem?
    intro j
    rw [spl_get (by simp; omega), spl_get (by simp; omega)]
    simp only [Array.toList_setIfInBounds, List.getElem?_set, List.length_cons, Array.length_toList]
    by_cases h1 : j < off + st
    · rw [if_pos (by omega), if_neg (by omega), if_pos h1]
    · by_cases h2 : j = off + st
      · subst h2
        rw [if_pos (by omega), if_pos rfl, if_pos (by omega), if_neg (by omega), if_pos (by omega)]
        simp
      · rw [if_neg (by omega), if_neg h1]
        by_cases h3 : j < off + st + (l.length + 1)
        · rw [if_pos (by omega), if_pos h3, show j - (off + st) = (j - (off + (st + 1))) + 1 by omega, List.getElem?_cons_succ]
        · rw [if_neg (by omega), if_neg (by omega), if_neg h3]

def fillA (place : Nat → Option (Nat × Nat)) (cells : List AV) : List (Nat × AV) → Option (List AV)
  | [] => some cells
  | (i, a) :: rest => match place i with
    | none => none
    | some (off, size) => bif Nat.beq a.cells.length size && Nat.ble (off + a.cells.length) cells.length then fillA place (spl cells off a.cells) rest else none

def AV.flat : AV → Bool
  | .agg _ => true
  | a => a.one
theorem AV.flat_or {a : AV} (h : a.flat = true) : (∃ cs, a = .agg cs) ∨ a.one = true := by cases a <;> first | exact .inl ⟨_, rfl⟩ | exact .inr h

theorem fillA_spec {O : Nat → Prop} {w : World} {ρ : Operand → Value} {f : Nat → AV} (place place' : Nat → Option (Nat × Nat)) (hpl : ∀ i, place' i = place i) : ∀ (parts : List (Nat × Operand)) (cells : List AV) (us : Array Value) (res : List AV), us.size = cells.length → RepC O w cells (fun j => us[j]?) →
    (∀ p ∈ parts, Rep O w (evalT f p.2) (ρ p.2) ∧ (evalT f p.2).flat = true) → fillA place cells (parts.map fun p => (p.1, evalT f p.2)) = some res →
    ∃ vs, Instr.fill place' us (parts.map fun p => (p.1, ρ p.2)) = some vs ∧ vs.size = res.length ∧ RepC O w res (fun j => vs[j]?)
  | [], cells, us, res, h1, h2, _, h4 => by
    simp only [List.map_nil, fillA, Option.some.injEq] at h4
    subst h4
    exact ⟨us, rfl, h1, h2⟩
  | (i, x) :: parts, cells, us, res, h1, h2, h3, h4 => by
    simp only [List.map_cons, fillA] at h4
    cases hp : place i with
    | none => simp [hp] at h4
    | some q =>
      obtain ⟨off, size⟩ := q
      simp only [hp] at h4
      cases hb : (Nat.beq (evalT f x).cells.length size && Nat.ble (off + (evalT f x).cells.length) cells.length) with
      | false => simp [hb] at h4
      | true =>
        simp only [hb, cond_true] at h4
        rw [Bool.and_eq_true] at hb
        have hs := Nat.eq_of_beq_eq_true hb.1
        have hle := Nat.le_of_ble_eq_true hb.2
        obtain ⟨hr, hfl⟩ := h3 (i, x) (by simp)
        obtain ⟨hc1, hc2⟩ := rep_cells hr (AV.flat_or hfl)
        simp only [List.map_cons, Instr.fill, hpl, hp]
        have hlen : (ρ x).cells.size = (evalT f x).cells.length := by simpa using hc1
        have hcond : ¬ (((ρ x).cells.size ≠ size || off + (ρ x).cells.size > us.size) = true) := by
          simp; omega
        rw [if_neg hcond]
        have hz := zipIdx_fold off (ρ x).cells.toList 0 us (by simp; omega)
        have hfold : ((ρ x).cells.zipIdx.foldl (fun cs (c, j) => cs.setIfInBounds (off + j) c) us).toList = spl us.toList off (ρ x).cells.toList := by
          rw [← Array.foldl_toList, Array.toList_zipIdx]
          exact hz
        refine fillA_spec place place' hpl parts (spl cells off (evalT f x).cells) _ res ?_ ?_ (fun p hp => h3 p (by simp [hp])) h4
        · rw [← Array.length_toList, hfold, spl_length (by simp; omega), spl_length hle]; simpa using h1
        · have e : (fun j => ((ρ x).cells.zipIdx.foldl (fun cs (c, j) => cs.setIfInBounds (off + j) c) us)[j]?) = (fun j => (spl us.toList off (ρ x).cells.toList)[j]?) := funext fun j => by
            rw [← Array.getElem?_toList, hfold]
          rw [e]
          refine RepC.spl_ hle (by simpa using h1) hc1 ?_ hc2
          have e2 : (fun j => us.toList[j]?) = (fun j => us[j]?) := funext fun j => Array.getElem?_toList
          rw [e2]; exact h2

section
variable {P : Program} {K : Prop} {N : Nat} {X : Nat → Prop} {h : List HObj} {f : Nat → AV} {o : Oper}

def stPlaces (P : Program) (t : TypeId) : Option (List (Nat × Nat)) := (tyFields P t).bind fun l => l.mapM fun p => (tyOf P p.2).map fun q => (p.1, q.2)
theorem run_mapM_places {w : World} : ∀ (l : List Field) (ps : List (Nat × Nat)), (l.map fun f => (f.offset, f.type)).mapM (fun p => (tyOf P p.2).map fun q => (p.1, q.2)) = some ps →
    (l.mapM fun f => do pure (f.offset, ← sizeOf f.type) : Sem (List (Nat × Nat))).run P w = .ok ps w
  | [], ps, h => by simp at h; subst h; simp
  | fd :: l, ps, h => by
    simp only [List.map_cons, List.mapM_cons, Option.bind_eq_bind, Option.pure_def, Option.bind_eq_some_iff, Option.map_eq_some_iff, Option.some.injEq] at h
    obtain ⟨q, ⟨⟨b, k⟩, hq, rfl⟩, ps', h1, rfl⟩ := h
    have ih := run_mapM_places (w := w) l ps' h1
    simp only [List.mapM_cons, Sem.run_bind, run_sizeOf_ hq, Result.andThen_ok, Sem.run_pure]
    rw [ih]
    simp

theorem zero_rep {O : Nat → Prop} {w : World} (zs : List Value) : RepC O w (zs.map .x) (fun j => zs[j]?) := RepC.mk fun j c hj => by
  rw [List.getElem?_map, Option.map_eq_some_iff] at hj
  obtain ⟨u, hu, rfl⟩ := hj
  exact ⟨u, hu, rep_x.2 rfl⟩
theorem tyZero_spec {t : TypeId} {zs : List Value} (hz : tyZero P t = some zs) (w : World) : ∃ z, (zeroValue t).run P w = .ok z w ∧ z.cells.toList = zs := by
  unfold tyZero at hz
  cases hi : P.info? t with
  | none => simp [hi] at hz
  | some i =>
    cases hz' : i.zero with
    | none => simp [hi, hz'] at hz
    | some z =>
      simp [hi, hz'] at hz
      exact ⟨z, by simp [zeroValue, typeInfo, hi, hz'], hz⟩

def flats (f : Nat → AV) : List (Nat × Operand) → Bool
  | [] => true
  | p :: l => (evalT f p.2).flat && flats f l
theorem flats_spec {f : Nat → AV} : ∀ {l : List (Nat × Operand)}, flats f l = true → ∀ p ∈ l, (evalT f p.2).flat = true
  | q :: l, h, p, hp => by
    simp only [flats, Bool.and_eq_true] at h
    rcases List.mem_cons.1 hp with rfl | hp
    · exact h.1
    · exact flats_spec h.2 p hp

theorem p_build {t : TypeId} {parts : List (Nat × Operand)} {zs : List Value} {ps : List (Nat × Nat)} {res : List AV} (ho : o.op = .build t parts.toArray) (hz : tyZero P t = some zs) (hp : stPlaces P t = some ps) (hfl : flats f parts = true)
    (hres : fillA (ps[·]?) (zs.map .x) (parts.map fun p => (p.1, evalT f p.2)) = some res) : PureOp P K N X h f o (.agg res) := pure_run fun a w w0 env H => by
  rw [ho] at H
  obtain ⟨z, hz1, hz2⟩ := tyZero_spec hz w
  unfold stPlaces tyFields at hp
  cases hd : P.underlying t with
  | none => simp [hd] at hp
  | some d =>
    cases d with
    | struct fs =>
      simp only [hd, Option.bind_some] at hp
      have hm := run_mapM_places (w := w) fs.toList ps hp
      obtain ⟨vs, h1, h2, h3⟩ := fillA_spec (O := owned X h) (w := w) (ρ := a.eval) (f := f) (ps[·]?) (ps.toArray[·]?) (fun i => by simp) parts (zs.map .x) z.cells res (by rw [← Array.length_toList, hz2]; simp)
        (by have e : (fun j => z.cells[j]?) = (fun j => zs[j]?) := funext fun j => by rw [← hz2]; exact Array.getElem?_toList.symm
            rw [e]; exact zero_rep zs)
        (fun p hp => ⟨H p.2 (by simp [Op.operands]; exact ⟨p.1, hp⟩), flats_spec hfl p hp⟩) hres
      refine ⟨.agg vs, ?_, by simp only [Rep]; exact ⟨vs, rfl, h2, h3⟩⟩
      have hmA : (fs.mapM fun f => do pure (f.offset, ← sizeOf f.type) : Sem (Array (Nat × Nat))).run P w = .ok ps.toArray w := by
        rw [← Array.toArray_toList (xs := fs), List.mapM_toArray]
        simp only [Sem.run_map]
        rw [hm]
        rfl
      simp only [execOp, ho, Instr.build, Sem.run_bind, hz1, Result.andThen_ok, run_underlying hd, hmA]
      have e : (parts.toArray.map fun (x : Nat × Operand) => (x.1, a.eval x.2)).toList = parts.map fun p => (p.1, a.eval p.2) := by simp
      rw [e, h1]
      simp
    | _ => simp [hd] at hp

end
end Go.Proofs.Ytpehmadeklaebaa
