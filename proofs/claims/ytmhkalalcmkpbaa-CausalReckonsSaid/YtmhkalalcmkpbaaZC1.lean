/-
  A7 A8 A9 B1 C1
-/
import Derived.Test.YtmhkalalcmkpbaaZA6
import Derived.Laws.CopyRow
namespace Go.Proofs.Ytmhkalalcmkpbaa
open Go Go.RowKit
set_option linter.unusedVariables false
set_option linter.unusedSimpArgs false

/-- Cells put in place of others. -/
def spl {α : Type} (cs : List α) (off : Nat) (news : List α) : List α := cs.take off ++ news ++ cs.drop (off + news.length)
theorem spl_length {α : Type} {cs : List α} {off : Nat} {news : List α} (h : off + news.length ≤ cs.length) : (spl cs off news).length = cs.length := by
  unfold spl; simp; omega
theorem spl_get {α : Type} {cs : List α} {off : Nat} {news : List α} (h : off + news.length ≤ cs.length) (j : Nat) : (spl cs off news)[j]? = if j < off then cs[j]? else if j < off + news.length then news[j - off]? else cs[j]? := by
  unfold spl
  have hl : (cs.take off).length = off := by simp; omega
  rw [List.append_assoc, List.getElem?_append, hl]
  split
  · rw [List.getElem?_take, if_pos (by assumption)]
  · rw [List.getElem?_append]
    split
    · rw [if_pos (by omega)]
    · rw [if_neg (by omega), List.getElem?_drop]
      congr 1; omega
theorem RepC.spl_ {O : Nat → Prop} {w : World} {cs news : List AV} {us vs : List Value} {off : Nat} (h : off + news.length ≤ cs.length) (hu : us.length = cs.length) (hv : vs.length = news.length)
    (h1 : RepC O w cs (fun j => us[j]?)) (h2 : RepC O w news (fun j => vs[j]?)) : RepC O w (spl cs off news) (fun j => (spl us off vs)[j]?) := RepC.mk fun j c hj => by
  rw [spl_get h] at hj
  show ∃ u, (spl us off vs)[j]? = some u ∧ _
  rw [spl_get (by omega)]
  split at hj
  · rename_i hlt
    rw [if_pos hlt]; exact h1.at_ j c hj
  · rename_i hlt
    rw [if_neg hlt]
    split at hj
    · rename_i hlt2
      rw [if_pos (by omega)]; exact h2.at_ (j - off) c hj
    · rename_i hlt2
      rw [if_neg (by omega)]; exact h1.at_ j c hj

theorem RepC.append {O : Nat → Prop} {w : World} {cs ds : List AV} {us vs : List Value} (hu : us.length = cs.length) (h1 : RepC O w cs (fun j => us[j]?)) (h2 : RepC O w ds (fun j => vs[j]?)) : RepC O w (cs ++ ds) (fun j => (us ++ vs)[j]?) := RepC.mk fun j c hj => by
  rw [List.getElem?_append] at hj
  show ∃ u, (us ++ vs)[j]? = some u ∧ _
  rw [List.getElem?_append]
  split at hj
  · rename_i hlt
    rw [if_pos (by omega)]; exact h1.at_ j c hj
  · rename_i hlt
    rw [if_neg (by omega), hu]; exact h2.at_ _ c hj

/-- A value's cells. -/
theorem rep_cells {O : Nat → Prop} {w : World} {a : AV} {v : Value} (h : Rep O w a v) (ha : (∃ cs, a = .agg cs) ∨ a.one = true) : v.cells.toList.length = a.cells.length ∧ RepC O w a.cells (fun j => v.cells.toList[j]?) := by
  rcases ha with ⟨cs, rfl⟩ | h1
  · simp only [Rep] at h
    obtain ⟨us, rfl, h1, h2⟩ := h
    refine ⟨by simpa [Value.cells, AV.cells] using h1, ?_⟩
    have e : (fun j => (Value.agg us).cells.toList[j]?) = (fun j => us[j]?) := funext fun j => Array.getElem?_toList
    rw [e]; exact h2
  · have hv := h.one h1
    have e : v.cells = #[v] := by cases v <;> first | rfl | cases hv
    have e2 : a.cells = [a] := by cases a <;> first | rfl | cases h1
    rw [e, e2]
    refine ⟨rfl, ?_⟩
    simp only [RepC]
    exact ⟨⟨v, rfl, h⟩, trivial⟩

theorem zipIdx_fold (off : Nat) : ∀ (l : List Value) (st : Nat) (arr : Array Value), off + st + l.length ≤ arr.size →
    ((l.zipIdx st).foldl (fun cs (p : Value × Nat) => cs.setIfInBounds (off + p.2) p.1) arr).toList = spl arr.toList (off + st) l
  | [], st, arr, h => by simp [spl]
  | v :: l, st, arr, h => by
    simp only [List.length_cons] at h
    rw [List.zipIdx_cons, List.foldl_cons, zipIdx_fold off l (st + 1) _ (by simp; omega)]
    apply List.ext_getElem?
    intro j
    rw [spl_get (by simp; omega), spl_get (by simp; omega)]
    simp only [Array.toList_setIfInBounds, List.getElem?_set, List.length_cons, Array.length_toList]
    by_cases h1 : j < off + st
    · rw [if_pos (by omega), if_neg (by omega), if_pos h1]
    · by_cases h2 : j = off + st
      · subst h2
        rw [if_pos (by omega), if_pos rfl, if_pos (by omega), if_neg (by omega), if_pos (by omega)]
        simp
      · rw [if_neg (by omega), if_neg h1]
        by_cases h3 : j < off + st + (l.length + 1)
        · rw [if_pos (by omega), if_pos h3, show j - (off + st) = (j - (off + (st + 1))) + 1 by omega, List.getElem?_cons_succ]
        · rw [if_neg (by omega), if_neg (by omega), if_neg h3]

def fillA (place : Nat → Option (Nat × Nat)) (cells : List AV) : List (Nat × AV) → Option (List AV)
  | [] => some cells
  | (i, a) :: rest => match place i with
    | none => none
    | some (off, size) => bif Nat.beq a.cells.length size && Nat.ble (off + a.cells.length) cells.length then fillA place (spl cells off a.cells) rest else none

def AV.flat : AV → Bool
  | .agg _ => true
  | a => a.one
theorem AV.flat_or {a : AV} (h : a.flat = true) : (∃ cs, a = .agg cs) ∨ a.one = true := by cases a <;> first | exact .inl ⟨_, rfl⟩ | exact .inr h

theorem fillA_spec {O : Nat → Prop} {w : World} {ρ : Operand → Value} {f : Nat → AV} (place place' : Nat → Option (Nat × Nat)) (hpl : ∀ i, place' i = place i) : ∀ (parts : List (Nat × Operand)) (cells : List AV) (us : Array Value) (res : List AV), us.size = cells.length → RepC O w cells (fun j => us[j]?) →
    (∀ p ∈ parts, Rep O w (evalT f p.2) (ρ p.2) ∧ (evalT f p.2).flat = true) → fillA place cells (parts.map fun p => (p.1, evalT f p.2)) = some res →
    ∃ vs, Instr.fill place' us (parts.map fun p => (p.1, ρ p.2)) = some vs ∧ vs.size = res.length ∧ RepC O w res (fun j => vs[j]?)
  | [], cells, us, res, h1, h2, _, h4 => by
    simp only [List.map_nil, fillA, Option.some.injEq] at h4
    subst h4
    exact ⟨us, rfl, h1, h2⟩
  | (i, x) :: parts, cells, us, res, h1, h2, h3, h4 => by
    simp only [List.map_cons, fillA] at h4
    cases hp : place i with
    | none => simp [hp] at h4
    | some q =>
      obtain ⟨off, size⟩ := q
      simp only [hp] at h4
      cases hb : (Nat.beq (evalT f x).cells.length size && Nat.ble (off + (evalT f x).cells.length) cells.length) with
      | false => simp [hb] at h4
      | true =>
        simp only [hb, cond_true] at h4
        rw [Bool.and_eq_true] at hb
        have hs := Nat.eq_of_beq_eq_true hb.1
        have hle := Nat.le_of_ble_eq_true hb.2
        obtain ⟨hr, hfl⟩ := h3 (i, x) (by simp)
        obtain ⟨hc1, hc2⟩ := rep_cells hr (AV.flat_or hfl)
        simp only [List.map_cons, Instr.fill, hpl, hp]
        have hlen : (ρ x).cells.size = (evalT f x).cells.length := by simpa using hc1
        have hcond : ¬ (((ρ x).cells.size ≠ size || off + (ρ x).cells.size > us.size) = true) := by
          simp; omega
        rw [if_neg hcond]
        have hz := zipIdx_fold off (ρ x).cells.toList 0 us (by simp; omega)
        have hfold : ((ρ x).cells.zipIdx.foldl (fun cs (c, j) => cs.setIfInBounds (off + j) c) us).toList = spl us.toList off (ρ x).cells.toList := by
          rw [← Array.foldl_toList, Array.toList_zipIdx]
          exact hz
        refine fillA_spec place place' hpl parts (spl cells off (evalT f x).cells) _ res ?_ ?_ (fun p hp => h3 p (by simp [hp])) h4
        · rw [← Array.length_toList, hfold, spl_length (by simp; omega), spl_length hle]; simpa using h1
        · have e : (fun j => ((ρ x).cells.zipIdx.foldl (fun cs (c, j) => cs.setIfInBounds (off + j) c) us)[j]?) = (fun j => (spl us.toList off (ρ x).cells.toList)[j]?) := funext fun j => by
            rw [← Array.getElem?_toList, hfold]
          rw [e]
          refine RepC.spl_ hle (by simpa using h1) hc1 ?_ hc2
          have e2 : (fun j => us.toList[j]?) = (fun j => us[j]?) := funext fun j => Array.getElem?_toList
          rw [e2]; exact h2

section
variable {P : Program} {K : Prop} {N : Nat} {X : Nat → Prop} {h : List HObj} {f : Nat → AV} {o : Oper}

def stPlaces (P : Program) (t : TypeId) : Option (List (Nat × Nat)) := (tyFields P t).bind fun l => l.mapM fun p => (tyOf P p.2).map fun q => (p.1, q.2)
theorem run_mapM_places {w : World} : ∀ (l : List Field) (ps : List (Nat × Nat)), (l.map fun f => (f.offset, f.type)).mapM (fun p => (tyOf P p.2).map fun q => (p.1, q.2)) = some ps →
    (l.mapM fun f => do pure (f.offset, ← sizeOf f.type) : Sem (List (Nat × Nat))).run P w = .ok ps w
  | [], ps, h => by simp at h; subst h; simp
  | fd :: l, ps, h => by
    simp only [List.map_cons, List.mapM_cons, Option.bind_eq_bind, Option.pure_def, Option.bind_eq_some_iff, Option.map_eq_some_iff, Option.some.injEq] at h
    obtain ⟨q, ⟨⟨b, k⟩, hq, rfl⟩, ps', h1, rfl⟩ := h
    have ih := run_mapM_places (w := w) l ps' h1
    simp only [List.mapM_cons, Sem.run_bind, run_sizeOf_ hq, Result.andThen_ok, Sem.run_pure]
    rw [ih]
    simp

theorem zero_rep {O : Nat → Prop} {w : World} (zs : List Value) : RepC O w (zs.map .x) (fun j => zs[j]?) := RepC.mk fun j c hj => by
  rw [List.getElem?_map, Option.map_eq_some_iff] at hj
  obtain ⟨u, hu, rfl⟩ := hj
  exact ⟨u, hu, rep_x.2 rfl⟩
theorem tyZero_spec {t : TypeId} {zs : List Value} (hz : tyZero P t = some zs) (w : World) : ∃ z, (zeroValue t).run P w = .ok z w ∧ z.cells.toList = zs := by
  unfold tyZero at hz
  cases hi : P.info? t with
  | none => simp [hi] at hz
  | some i =>
    cases hz' : i.zero with
    | none => simp [hi, hz'] at hz
    | some z =>
      simp [hi, hz'] at hz
      exact ⟨z, by simp [zeroValue, typeInfo, hi, hz'], hz⟩

def flats (f : Nat → AV) : List (Nat × Operand) → Bool
  | [] => true
  | p :: l => (evalT f p.2).flat && flats f l
theorem flats_spec {f : Nat → AV} : ∀ {l : List (Nat × Operand)}, flats f l = true → ∀ p ∈ l, (evalT f p.2).flat = true
  | q :: l, h, p, hp => by
    simp only [flats, Bool.and_eq_true] at h
    rcases List.mem_cons.1 hp with rfl | hp
    · exact h.1
    · exact flats_spec h.2 p hp

theorem p_build {t : TypeId} {parts : List (Nat × Operand)} {zs : List Value} {ps : List (Nat × Nat)} {res : List AV} (ho : o.op = .build t parts.toArray) (hz : tyZero P t = some zs) (hp : stPlaces P t = some ps) (hfl : flats f parts = true)
    (hres : fillA (ps[·]?) (zs.map .x) (parts.map fun p => (p.1, evalT f p.2)) = some res) : PureOp P K N X h f o (.agg res) := pure_run fun a w w0 env H => by
  rw [ho] at H
  obtain ⟨z, hz1, hz2⟩ := tyZero_spec hz w
  unfold stPlaces tyFields at hp
  cases hd : P.underlying t with
  | none => simp [hd] at hp
  | some d =>
    cases d with
    | struct fs =>
      simp only [hd, Option.bind_some] at hp
      have hm := run_mapM_places (w := w) fs.toList ps hp
      obtain ⟨vs, h1, h2, h3⟩ := fillA_spec (O := owned X h) (w := w) (ρ := a.eval) (f := f) (ps[·]?) (ps.toArray[·]?) (fun i => by simp) parts (zs.map .x) z.cells res (by rw [← Array.length_toList, hz2]; simp)
        (by have e : (fun j => z.cells[j]?) = (fun j => zs[j]?) := funext fun j => by rw [← hz2]; exact Array.getElem?_toList.symm
            rw [e]; exact zero_rep zs)
        (fun p hp => ⟨H p.2 (by simp [Op.operands]; exact ⟨p.1, hp⟩), flats_spec hfl p hp⟩) hres
      refine ⟨.agg vs, ?_, by simp only [Rep]; exact ⟨vs, rfl, h2, h3⟩⟩
      have hmA : (fs.mapM fun f => do pure (f.offset, ← sizeOf f.type) : Sem (Array (Nat × Nat))).run P w = .ok ps.toArray w := by
        rw [← Array.toArray_toList (xs := fs), List.mapM_toArray]
        simp only [Sem.run_map]
        rw [hm]
        rfl
      simp only [execOp, ho, Instr.build, Sem.run_bind, hz1, Result.andThen_ok, run_underlying hd, hmA]
      have e : (parts.toArray.map fun (x : Nat × Operand) => (x.1, a.eval x.2)).toList = parts.map fun p => (p.1, a.eval p.2) := by simp
      rw [e, h1]
      simp
    | _ => simp [hd] at hp

theorem p_build_arr {t e : TypeId} {n k : Nat} {b : Bool} {parts : List (Nat × Operand)} {zs : List Value} {res : List AV} (ho : o.op = .build t parts.toArray) (hz : tyZero P t = some zs) (ht : P.underlying t = some (.array n e)) (he : tyOf P e = some (b, k)) (hfl : flats f parts = true)
    (hres : fillA (fun i => some (i * k, k)) (zs.map .x) (parts.map fun p => (p.1, evalT f p.2)) = some res) : PureOp P K N X h f o (.agg res) := pure_run fun a w w0 env H => by
  rw [ho] at H
  obtain ⟨z, hz1, hz2⟩ := tyZero_spec hz w
  obtain ⟨vs, h1, h2, h3⟩ := fillA_spec (O := owned X h) (w := w) (ρ := a.eval) (f := f) (fun i => some (i * k, k)) (fun i => some (i * k, k)) (fun i => rfl) parts (zs.map .x) z.cells res (by rw [← Array.length_toList, hz2]; simp)
        (by have e : (fun j => z.cells[j]?) = (fun j => zs[j]?) := funext fun j => by rw [← hz2]; exact Array.getElem?_toList.symm
            rw [e]; exact zero_rep zs)
        (fun p hp => ⟨H p.2 (by simp [Op.operands]; exact ⟨p.1, hp⟩), flats_spec hfl p hp⟩) hres
  refine ⟨.agg vs, ?_, by simp only [Rep]; exact ⟨vs, rfl, h2, h3⟩⟩
  simp only [execOp, ho, Instr.build, Sem.run_bind, hz1, Result.andThen_ok, run_underlying ht, run_sizeOf_ he]
  have e : (parts.toArray.map fun (x : Nat × Operand) => (x.1, a.eval x.2)).toList = parts.map fun p => (p.1, a.eval p.2) := by simp
  rw [e, h1]
  simp
end
end Go.Proofs.Ytmhkalalcmkpbaa

namespace Go.Proofs.Ytmhkalalcmkpbaa
open Go Go.RowKit
set_option linter.unusedVariables false
set_option linter.unusedSimpArgs false

section
variable {X : Nat → Prop} {w0 : Orig} {w w' : World} {h : List HObj}

/-- One more block of the call's own. -/
theorem Env.push (env : Env X w0 h w) {p : HObj} (hb : Bl w0.K w w') (hp : p.ok (owned X (h ++ [p])) w') (hn : ∀ b, p.blk = some b → w.heap.size ≤ b ∧ b < w'.heap.size) : Env X w0 (h ++ [p]) w' := by
  have e1 := env.below_ hb
  have hO : ∀ b, b < w.heap.size → owned X (h ++ [p]) b → owned X h b := by
    rintro b hlt (hx | ⟨o, ho, hob⟩)
    · exact .inl hx
    · rcases List.mem_append.1 ho with ho | ho
      · exact .inr ⟨o, ho, hob⟩
      · obtain rfl : o = p := by simpa using ho
        have := (hn b hob).1; omega
  refine ⟨e1.below, fun o ho => ?_, fun o ho b hob => ?_, fun o ho b hob => ?_, env.ext, fun i j o q b hi hj ho hq => ?_⟩
  · rcases List.mem_append.1 ho with ho | ho
    · exact HObj.ok_mono (env.objs o ho) (Kept.of_below hb.b) hO fun b hbb => hb.b.block b (env.lt o ho b hbb)
    · obtain rfl : o = p := by simpa using ho
      exact hp
  · rcases List.mem_append.1 ho with ho | ho
    · exact env.new o ho b hob
    · obtain rfl : o = p := by simpa using ho
      exact .inl (Nat.le_trans env.below.size (hn b hob).1)
  · rcases List.mem_append.1 ho with ho | ho
    · exact e1.lt o ho b hob
    · obtain rfl : o = p := by simpa using ho
      exact (hn b hob).2
  · have key : ∀ (i : Nat) (o : HObj), (h ++ [p])[i]? = some o → h[i]? = some o ∨ (i = h.length ∧ o = p) := fun i o hi => by
      rw [List.getElem?_append] at hi
      split at hi
      · exact .inl hi
      · have : i - h.length = 0 := by
          rcases Nat.eq_zero_or_pos (i - h.length) with h0 | h0
          · exact h0
          · rw [List.getElem?_eq_none (by simp; omega)] at hi; cases hi
        rw [this] at hi
        exact .inr ⟨by omega, by simpa using hi.symm⟩
    rcases key i o hi with hi' | ⟨rfl, rfl⟩ <;> rcases key j q hj with hj' | ⟨rfl, rfl⟩
    · exact env.apart i j o q b hi' hj' ho hq
    · have := env.lt o (List.mem_of_getElem? hi') b ho
      have := (hn b hq).1; omega
    · have := env.lt q (List.mem_of_getElem? hj') b hq
      have := (hn b ho).1; omega
    · rfl
theorem slots_push {N : Nat} {f : Nat → AV} {a : Act} (env : Env X w0 h w) {p : HObj} (hb : Bl w0.K w w') (hn : ∀ b, p.blk = some b → w.heap.size ≤ b ∧ b < w'.heap.size) (hs : Slots N (owned X h) w f a) : Slots N (owned X (h ++ [p])) w' f a :=
  hs.mono (Kept.of_below hb.b) fun b hlt hO => by
    rcases hO with hx | ⟨o, ho, hob⟩
    · exact .inl hx
    · rcases List.mem_append.1 ho with ho | ho
      · exact .inr ⟨o, ho, hob⟩
      · obtain rfl : o = p := by simpa using ho
        have := (hn b hob).1; omega

/-- One of the call's own blocks changes, or gives way to a new one. -/
theorem owned_set {i : Nat} {p q : HObj} (hi : h[i]? = some p) (env : Env X w0 h w) (hq : ∀ b, q.blk = some b → p.blk = some b ∨ w.heap.size ≤ b) : ∀ b, b < w.heap.size → owned X (h.set i q) b → owned X h b := by
  rintro b hlt (hx | ⟨o, ho, hob⟩)
  · exact .inl hx
  · rcases List.mem_or_eq_of_mem_set ho with ho | rfl
    · exact .inr ⟨o, ho, hob⟩
    · rcases hq b hob with hp | hp
      · exact .inr ⟨p, List.mem_of_getElem? hi, hp⟩
      · omega
theorem Env.set_ (env : Env X w0 h w) {i : Nat} {p q : HObj} (hi : h[i]? = some p) (hg : w.grownBy w' p.blk) (hdr : w0.K → w.drawn ≤ w'.drawn) (hk : q.ok (owned X (h.set i q)) w')
    (hq : ∀ b, q.blk = some b → p.blk = some b ∨ w.heap.size ≤ b) (hl : ∀ b, q.blk = some b → b < w'.heap.size) : Env X w0 (h.set i q) w' := by
  have hpm : p ∈ h := List.mem_of_getElem? hi
  have hil : i < h.length := (List.getElem?_eq_some_iff.1 hi).1
  have keep : Kept (owned X h) w w' := ⟨hg.size, fun b hlt hO => hg.block b hlt fun e => hO (.inr ⟨p, hpm, e.symm⟩)⟩
  have hO := owned_set hi env hq
  refine ⟨?_, fun o ho => ?_, fun o ho b hob => ?_, fun o ho b hob => ?_, env.ext, fun j k o r b hj hk' ho hr => ?_⟩
  · refine ⟨hg.os.trans env.below.os, hg.tape.trans env.below.tape, hg.output.trans env.below.output, Nat.le_trans env.below.size hg.size, fun b hb hf => (hg.block b (Nat.lt_of_lt_of_le hb env.below.size) fun e => ?_).trans (env.below.block b hb hf), fun hk => Nat.le_trans (env.below.drawn hk) (hdr hk)⟩
    rcases env.new p hpm b e.symm with h5 | h5
    · omega
    · exact hf h5
  · obtain ⟨j, hj⟩ := List.mem_iff_getElem?.1 ho
    rw [List.getElem?_set] at hj
    simp only [hil, if_true] at hj
    split at hj
    · obtain rfl : q = o := by simpa using hj
      exact hk
    · rename_i hne
      refine HObj.ok_mono (env.objs o (List.mem_of_getElem? hj)) keep hO fun b hbb => hg.block b (env.lt o (List.mem_of_getElem? hj) b hbb) fun e => ?_
      exact hne (env.apart i j p o b hi hj e.symm hbb)
  · rcases List.mem_or_eq_of_mem_set ho with ho | rfl
    · exact env.new o ho b hob
    · rcases hq b hob with hp | hp
      · exact env.new p hpm b hp
      · exact .inl (Nat.le_trans env.below.size hp)
  · rcases List.mem_or_eq_of_mem_set ho with ho | rfl
    · exact Nat.lt_of_lt_of_le (env.lt o ho b hob) hg.size
    · exact hl b hob
  · rw [List.getElem?_set] at hj hk'
    simp only [hil, if_true] at hj hk'
    split at hj
    · rename_i e1
      obtain rfl : q = o := by simpa using hj
      split at hk'
      · omega
      · rename_i e2
        rcases hq b ho with hp | hp
        · have := env.apart i k p r b hi hk' hp hr; omega
        · have := env.lt r (List.mem_of_getElem? hk') b hr; omega
    · rename_i e1
      split at hk'
      · rename_i e2
        obtain rfl : q = r := by simpa using hk'
        rcases hq b hr with hp | hp
        · have := env.apart i j p o b hi hj hp ho; omega
        · have := env.lt o (List.mem_of_getElem? hj) b ho; omega
      · exact env.apart j k o r b hj hk' ho hr
theorem slots_set {N : Nat} {f : Nat → AV} {a : Act} {i : Nat} {p q : HObj} (env : Env X w0 h w) (hi : h[i]? = some p) (hg : w.grownBy w' p.blk) (hq : ∀ b, q.blk = some b → p.blk = some b ∨ w.heap.size ≤ b) (hs : Slots N (owned X h) w f a) : Slots N (owned X (h.set i q)) w' f a :=
  hs.mono ⟨hg.size, fun b hlt hO => hg.block b hlt fun e => hO (.inr ⟨p, List.mem_of_getElem? hi, e.symm⟩)⟩ (owned_set hi env hq)
end

section
variable {P : Program} {C : Cx} {Q : Exit → AS → Prop} {s : AS} {ops : Array Oper} {o : Oper} {rest : List Oper}

theorem below_alloc1 {K : Prop} (w : World) (o : Obj) : Bl K w (w.alloc o) := Bl.alloc K w o

/-- A new block that holds what a value means. -/
theorem st_new {T : TypeId} {us : Array Value} {cs : List AV} {a : Act} {w : World} (hs : C.St s a w) (hl : us.size = cs.length) (hr : RepC (owned C.X s.h) w cs (fun j => us[j]?)) (d : Option Nat) :
    C.St ⟨putT C.N s.t d (.x (.pointer (some ⟨w.heap.size, 0, none⟩))), s.h ++ [.cells w.heap.size T cs]⟩ (a.put d (.pointer (some ⟨w.heap.size, 0, none⟩))) (w.alloc (.cells us T)) := by
  have hn : ∀ b, (HObj.cells w.heap.size T cs).blk = some b → w.heap.size ≤ b ∧ b < (w.alloc (.cells us T)).heap.size := fun b hb => by
    obtain rfl : w.heap.size = b := by simpa [HObj.blk] using hb
    simp
  have hb := below_alloc1 (K := C.w0.K) w (.cells us T)
  refine ⟨hs.env.push hb ⟨us, heap_alloc_new w _, hl, ?_⟩ hn, (slots_push hs.env hb hn hs.slots).put d (rep_x.2 rfl)⟩
  refine RepC.mono (Kept.of_below hb.b) (fun b hlt hO => ?_) _ _ hr
  rcases hO with hx | ⟨o, ho, hob⟩
  · exact .inl hx
  · rcases List.mem_append.1 ho with ho | ho
    · exact .inr ⟨o, ho, hob⟩
    · obtain rfl : o = _ := by simpa using ho
      have := (hn b hob).1; omega

theorem awl_alloc {T : TypeId} {zs : List Value} (hg : o.guard = none) (ho : o.op = .alloc T) (hz : tyZero P T = some zs)
    (k : ∀ g, AWL P C ops Q rest ⟨putT C.N s.t o.dst (.x (.pointer (some ⟨g, 0, none⟩))), s.h ++ [.cells g T (zs.map .x)]⟩) : AWL P C ops Q (o :: rest) s := by
  intro a w hs
  refine wpList_plain hg fun K hK => ?_
  obtain ⟨z, hz1, hz2⟩ := tyZero_spec hz w
  have hrun : (execOp a.eval o).run P w = .ok (.value (.pointer (some ⟨w.heap.size, 0, none⟩))) (w.alloc (.cells z.cells T)) := by
    simp [execOp, ho, Instr.alloc, hz1, newVar, newRow]
  unfold Oper.wp
  rw [hrun]
  refine hK _ _ (k w.heap.size _ _ (st_new hs (by rw [← Array.length_toList, hz2]; simp) ?_ o.dst))
  have e : (fun j => z.cells[j]?) = (fun j => zs[j]?) := funext fun j => by rw [← hz2]; exact Array.getElem?_toList.symm
  rw [e]; exact zero_rep zs

theorem awl_box {T : TypeId} {x : Operand} (hg : o.guard = none) (ho : o.op = .box T x) (hf : (evalT s.t x).flat = true)
    (k : ∀ g, AWL P C ops Q rest ⟨putT C.N s.t o.dst (.x (.pointer (some ⟨g, 0, none⟩))), s.h ++ [.cells g T (evalT s.t x).cells]⟩) : AWL P C ops Q (o :: rest) s := by
  intro a w hs
  refine wpList_plain hg fun K hK => ?_
  obtain ⟨h1, h2⟩ := rep_cells (hs.slots.eval x) (AV.flat_or hf)
  have hrun : (execOp a.eval o).run P w = .ok (.value (.pointer (some ⟨w.heap.size, 0, none⟩))) (w.alloc (.cells (a.eval x).cells T)) := by
    simp [execOp, ho, Instr.box, newVar, newRow]
  unfold Oper.wp
  rw [hrun]
  refine hK _ _ (k w.heap.size _ _ (st_new hs (by simpa using h1) ?_ o.dst))
  have e : (fun j => (a.eval x).cells[j]?) = (fun j => (a.eval x).cells.toList[j]?) := funext fun j => Array.getElem?_toList.symm
  rw [e]; exact h2

def AV.ones : List AV → Bool
  | [] => true
  | c :: cs => c.one && AV.ones cs
theorem AV.ones_spec {O : Nat → Prop} {w : World} : ∀ {cs : List AV} {vs : List Value}, AV.ones cs = true → vs.length = cs.length → RepC O w cs (fun j => vs[j]?) → ∀ v ∈ vs, v.oneCell' = true
  | [], [], _, _, _, v, hv => by simp at hv
  | [], _ :: _, _, hl, _, _, _ => by simp at hl
  | c :: cs, [], _, hl, _, _, _ => by simp at hl
  | c :: cs, u :: vs, h1, hl, hr, v, hv => by
    simp only [AV.ones, Bool.and_eq_true] at h1
    simp only [RepC] at hr
    obtain ⟨⟨u', hu, hr1⟩, hr2⟩ := hr
    obtain rfl : u = u' := by simpa using hu
    rcases List.mem_cons.1 hv with rfl | hv
    · exact hr1.one h1.1
    · exact AV.ones_spec (vs := vs) h1.2 (by simpa using hl) hr2 v hv

/-- A store into a block of the call's own. -/
theorem awl_store {T : TypeId} {x y : Operand} {g off i : Nat} {T' : TypeId} {cs : List AV} {b : Bool} {k : Nat} (hg : o.guard = none) (ho : o.op = .store T x y) (hx : evalT s.t x = .x (.pointer (some ⟨g, off, none⟩))) (hi : s.h[i]? = some (.cells g T' cs)) (ht : tyOf P T = some (b, k))
    (hf : (evalT s.t y).flat = true) (h1 : AV.ones (evalT s.t y).cells = true) (hk : (evalT s.t y).cells.length = k) (hoff : off + k ≤ cs.length)
    (kk : AWL P C ops Q rest ⟨putT C.N s.t o.dst .any, s.h.set i (.cells g T' (spl cs off (evalT s.t y).cells))⟩) : AWL P C ops Q (o :: rest) s := by
  intro a w hs
  refine wpList_plain hg fun K hK => ?_
  have hxe := hs.slots.eval x
  rw [hx, rep_x] at hxe
  obtain ⟨hl, hr⟩ := rep_cells (hs.slots.eval y) (AV.flat_or hf)
  obtain ⟨us, hh, hus, hur⟩ := hs.env.objs _ (List.mem_of_getElem? hi)
  have hone := AV.ones_spec h1 hl hr
  have hst := run_storeCells_at (P := P) g off T' (a.eval y).cells.toList 0 us w hh (by omega) hone
  have hrun : (execOp a.eval o).run P w = .ok .skip (w.setRow g (spl us.toList off (a.eval y).cells.toList).toArray) := by
    have hsz : (a.eval y).cells.size = k := by rw [← Array.length_toList, hl, hk]
    have e2 : (storeCells ⟨g, off, none⟩ (a.eval y).cells.toList).run P w = .ok () (w.setRow g (spl us.toList off (a.eval y).cells.toList).toArray) := by
      rw [hst]; simp [spl]
    simp only [execOp, ho, hxe, Instr.storeAt, Instr.sureAddr, Sem.run_bind, Sem.run_pure, Result.andThen_ok, storeVar, run_sizeOf_ ht, hsz]
    simp [e2]
  unfold Oper.wp
  rw [hrun]
  refine hK _ _ (kk _ _ ?_)
  have hgw : w.grownBy (w.setRow g (spl us.toList off (a.eval y).cells.toList).toArray) (some g) := ⟨rfl, rfl, rfl, by simp, fun b hb hne => setRow_other w g b _ (by intro e; subst e; exact hne rfl)⟩
  have hq : ∀ b, (HObj.cells g T' (spl cs off (evalT s.t y).cells)).blk = some b → (HObj.cells g T' cs).blk = some b ∨ w.heap.size ≤ b := fun b hb => .inl hb
  have hO := owned_set hi hs.env hq
  have hkeep : Kept (owned C.X s.h) w (w.setRow g (spl us.toList off (a.eval y).cells.toList).toArray) := ⟨hgw.size, fun b hlt hO => hgw.block b hlt fun e => hO (.inr ⟨_, List.mem_of_getElem? hi, by rw [e]; rfl⟩)⟩
  refine ⟨hs.env.set_ hi hgw (fun _ => Nat.le_refl _) ⟨_, setRow_heap w g us _ T' _ hh, ?_, ?_⟩ hq (fun b hb => ?_), (slots_set hs.env hi hgw hq hs.slots).put o.dst undef_rep⟩
  · simp only [List.size_toArray]
    rw [spl_length (by simp at hl; simp; omega), spl_length (by omega)]
    simpa using hus
  · have e : (fun j => (spl us.toList off (a.eval y).cells.toList).toArray[j]?) = (fun j => (spl us.toList off (a.eval y).cells.toList)[j]?) := funext fun j => List.getElem?_toArray
    rw [e]
    have hu2 : RepC (owned C.X s.h) w cs (fun j => us.toList[j]?) := by
      have e2 : (fun j => us.toList[j]?) = (fun j => us[j]?) := funext fun j => Array.getElem?_toList
      rw [e2]; exact hur
    exact RepC.mono hkeep hO _ _ (RepC.spl_ (by omega) (by simpa using hus) hl hu2 hr)
  · obtain rfl : g = b := by simpa [HObj.blk] using hb
    have := (Array.getElem?_eq_some_iff.1 hh).1
    simpa using this
end
end Go.Proofs.Ytmhkalalcmkpbaa

namespace Go.Proofs.Ytmhkalalcmkpbaa
open Go Go.RowKit
set_option linter.unusedVariables false
set_option linter.unusedSimpArgs false

/-- No operation takes a draw back. -/
theorem view_drawn {P : Program} {w w' : World} {l : List Addr} {at_ : Addr} {u : TypeId} {k : Addr} {v : Value} {b : Bool} (h : w.viewStore P at_ u k v b = .ok (w', l)) : w'.drawn = w.drawn := by
  unfold World.viewStore at h
  simp only [bind, Except.bind, pure, Except.pure] at h
  repeat' (split at h)
  all_goals first
    | (cases h; done)
    | (injection h with h; injection h with h1 h2; rw [← h1])
theorem far_drawn {P : Program} {w w' : World} {l : List Addr} {a : Addr} {v : Value} {b : Bool} (h : w.farStore P a v b = .ok (w', l)) : w'.drawn = w.drawn := by
  unfold World.farStore at h
  repeat' (split at h)
  · rename_i r hr
    injection h with h; subst h
    exact view_drawn hr
  · cases h
  · cases h
theorem ask_drawn {α : Type} : ∀ (x : Ask α) (w : World), w.drawn ≤ (w.ask x).2.drawn
  | .done a, w => Nat.le_refl _
  | .ask what range k, w => by
    unfold World.ask
    simp only []
    split
    · exact ask_drawn (k 0) w
    · have hh := ask_drawn (k ((Question.extern what range).cut (w.tape w.drawn (Question.extern what range)))) { w with drawn := w.drawn + 1 }
      exact Nat.le_trans (Nat.le_succ _) hh
theorem sys_drawn (w : World) (c : Sys) : w.drawn ≤ (w.sys c).2.drawn := by
  have := ask_drawn (Kernel.perform c w.os) w
  unfold World.sys
  split
  · exact Nat.le_refl _
  · rename_i h
    rw [h] at this; exact this
theorem run_drawn {P : Program} {α : Type} (x : Sem α) : ∀ (w : World) {a : α} {w' : World}, x.run P w = .ok a w' → w.drawn ≤ w'.drawn := by
  induction x with
  | pure a => intro w a w' h; simp only [Sem.run, Result.ok.injEq] at h; rw [← h.2]; exact Nat.le_refl _
  | load m a k ih =>
    intro w b w' h
    simp only [Sem.run] at h
    repeat' (split at h)
    · (have hh := ih _ _ h; exact hh)
    · (have hh := ih _ _ h; exact hh)
    · cases h
  | store m a v k ih =>
    intro w b w' h
    cases v <;> simp only [Sem.run] at h <;> (try (cases h; done)) <;> (repeat' (split at h)) <;> first
      | (cases h; done)
      | (have hh := ih _ h; exact hh)
      | (rename_i hf; have := far_drawn hf; have := ih _ h; omega)
  | new o k ih => intro w b w' h; simp only [Sem.run] at h; (have hh := ih _ _ h; exact hh)
  | shape r k ih => intro w b w' h; simp only [Sem.run] at h; (have hh := ih _ _ h; exact hh)
  | freeze a n k ih =>
    intro w b w' h; simp only [Sem.run] at h
    have := ih _ h
    have e : (w.freeze a n).drawn = w.drawn := by unfold World.freeze; split <;> rfl
    omega
  | frozen a k ih => intro w b w' h; simp only [Sem.run] at h; (have hh := ih _ _ h; exact hh)
  | getObj r k ih =>
    intro w b w' h
    simp only [Sem.run] at h
    repeat' (split at h)
    · cases h
    · (have hh := ih _ _ h; exact hh)
    · cases h
  | setObj r o k ih =>
    intro w b w' h
    simp only [Sem.run] at h
    repeat' (split at h)
    · cases h
    · (have hh := ih _ h; exact hh)
    · cases h
  | choose q k ih =>
    intro w b w' h
    simp only [Sem.run] at h
    split at h
    · (have hh := ih _ _ h; exact hh)
    · exact Nat.le_trans (Nat.le_succ _) (ih _ _ h)
  | sys c k ih =>
    intro w b w' h; simp only [Sem.run] at h
    exact Nat.le_trans (sys_drawn w c) (ih _ _ h)
  | program k ih => intro w b w' h; simp only [Sem.run] at h; (have hh := ih _ _ h; exact hh)
  | mark m k ih => intro w b w' h; simp only [Sem.run] at h; (have hh := ih _ h; exact hh)
  | halt h => intro w a w' h; simp [Sem.run] at h

/-- Of an element type: how many cells, how many bytes. -/
def rowOf (P : Program) (e : TypeId) : Option (Nat × Nat) :=
  match P.info? e with
  | some i => match i.zero with
    | some z => bif Nat.beq z.cells.size i.size && Nat.blt 0 i.size then some (i.size, i.bytes) else none
    | none => none
  | none => none
theorem rowOf_spec {P : Program} {e : TypeId} {k b : Nat} (h : rowOf P e = some (k, b)) : ∃ i z, P.info? e = some i ∧ i.zero = some z ∧ i.size = k ∧ i.bytes = b ∧ z.cells.size = k ∧ 0 < k := by
  unfold rowOf at h
  cases hi : P.info? e with
  | none => simp [hi] at h
  | some i =>
    cases hz : i.zero with
    | none => simp [hi, hz] at h
    | some z =>
      simp only [hi, hz] at h
      cases hb : (Nat.beq z.cells.size i.size && Nat.blt 0 i.size) with
      | false => simp [hb] at h
      | true =>
        simp only [hb, cond_true, Option.some.injEq, Prod.mk.injEq] at h
        rw [Bool.and_eq_true] at hb
        have h1 := Nat.eq_of_beq_eq_true hb.1
        have h2 : 0 < i.size := by simpa [Nat.blt_eq] using hb.2
        exact ⟨i, z, rfl, hz, h.1, h.2, h1.trans h.1, h.1 ▸ h2⟩

/-- The values that lie where a slice's cells are. -/
theorem repC_vals {O : Nat → Prop} {w : World} : ∀ {cs : List AV} {g : Nat → Option Value}, RepC O w cs g → ∃ us : List Value, us.length = cs.length ∧ (∀ (j : Nat) u, us[j]? = some u → g j = some u) ∧ RepC O w cs (fun j => us[j]?)
  | [], g, h => ⟨[], rfl, fun j u hj => by simp at hj, by simp [RepC]⟩
  | c :: cs, g, h => by
    simp only [RepC] at h
    obtain ⟨⟨u, hu, hr⟩, h2⟩ := h
    obtain ⟨us, h3, h4, h5⟩ := repC_vals h2
    refine ⟨u :: us, by simp [h3], fun j v hj => ?_, ?_⟩
    · cases j with
      | zero => obtain rfl : u = v := by simpa using hj
                exact hu
      | succ j => exact h4 j v (by simpa using hj)
    · simp only [RepC]
      exact ⟨⟨u, rfl, hr⟩, by simpa using h5⟩

theorem zeros_toList (n : Nat) (z : Array Value) : ((Array.range n).map (z[· % z.size]!)).toList = (List.range n).map fun j => z[j % z.size]! := by simp

section
variable {P : Program} {K : Prop} {N : Nat} {X : Nat → Prop} {h : List HObj} {f : Nat → AV} {o : Oper}

def zcells (zs : List Value) (n : Nat) : List AV := (List.range n).map fun j => .x (zs[j % zs.length]!)

theorem run_buildSlice {O : Nat → Prop} {w : World} {a : Act} {t e : TypeId} {n k : Nat} {b : Bool} {parts : List (Nat × Operand)} {zs : List Value} {res : List AV} (ho : o.op = .buildSlice t n parts.toArray) (hz : tyZero P e = some zs) (ht : P.underlying t = some (.slice e)) (he : tyOf P e = some (b, k)) (hn : n * k ≤ 16777216) (hp : 0 < n * k) (hfl : flats f parts = true)
    (H : ∀ x ∈ o.op.operands.toList, Rep O w (evalT f x) (a.eval x))
    (hres : fillA (fun i => some (i * k, k)) (zcells zs (n * k)) (parts.map fun p => (p.1, evalT f p.2)) = some res) :
    ∃ vs : Array Value, (execOp a.eval o).run P w = .ok (.value (.slice (some ⟨w.heap.size, 0, none⟩) n n)) (w.alloc (.cells vs e)) ∧ vs.size = res.length ∧ RepC O w res (fun j => vs[j]?) := by
  rw [ho] at H
  obtain ⟨z, hz1, hz2⟩ := tyZero_spec hz w
  have hzl : (List.range (n * k)).map (fun j => z.cells[j % z.cells.size]!) = (List.range (n * k)).map fun j => zs[j % zs.length]! := by
    refine List.map_congr_left fun j _ => ?_
    rw [← hz2]; simp; rw [getElem!_def]; cases z.cells[j % z.cells.size]? <;> rfl
  obtain ⟨vs, h1, h2, h3⟩ := fillA_spec (O := O) (w := w) (ρ := a.eval) (f := f) (fun i => some (i * k, k)) (fun i => some (i * k, k)) (fun i => rfl) parts (zcells zs (n * k)) ((Array.range (n * k)).map (z.cells[· % z.cells.size]!)) res (by simp [zcells])
        (by have e : (fun j => ((Array.range (n * k)).map (z.cells[· % z.cells.size]!))[j]?) = (fun j => ((List.range (n * k)).map fun j => zs[j % zs.length]!)[j]?) := funext fun j => by rw [← Array.getElem?_toList, zeros_toList, hzl]
            rw [e]
            have := zero_rep (O := O) (w := w) ((List.range (n * k)).map fun j => zs[j % zs.length]!)
            simpa [zcells, List.map_map, Function.comp_def] using this)
        (fun p hp => ⟨H p.2 (by simp [Op.operands]; exact ⟨p.1, hp⟩), flats_spec hfl p hp⟩) hres
  refine ⟨vs, ?_, h2, h3⟩
  have h24 : ¬ (n * k > 2 ^ 24) := by simpa using hn
  have hne : ¬ (n * k = 0) := by omega
  simp only [execOp, ho, Instr.buildSlice, Sem.run_bind, Result.andThen_ok, run_underlying ht, run_sizeOf_ he, h24, hne, if_false, Sem.run_pure, hz1]
  have e : (parts.toArray.map fun (x : Nat × Operand) => (x.1, a.eval x.2)).toList = parts.map fun p => (p.1, a.eval p.2) := by simp
  rw [e, h1]
  simp [newRow]

/-- A slice literal that nobody writes. -/
theorem p_buildSlice {t e : TypeId} {n k : Nat} {b : Bool} {parts : List (Nat × Operand)} {zs : List Value} {res : List AV} (ho : o.op = .buildSlice t n parts.toArray) (hz : tyZero P e = some zs) (ht : P.underlying t = some (.slice e)) (he : tyOf P e = some (b, k)) (hn : n * k ≤ 16777216) (hp : 0 < n * k) (hfl : flats f parts = true)
    (hres : fillA (fun i => some (i * k, k)) (zcells zs (n * k)) (parts.map fun p => (p.1, evalT f p.2)) = some res) (hl : res.length = n * k) : PureOp P K N X h f o (.sl k n res) := pure_of fun a w w0 hK env H => by
  obtain ⟨vs, h1, h2, h3⟩ := run_buildSlice ho hz ht he hn hp hfl H hres
  have hb := below_alloc1 (K := K) w (.cells vs e)
  refine ⟨_, _, h1, hb, ?_⟩
  simp only [Rep]
  have hk : 0 < k := Nat.pos_of_mul_pos_left hp
  have hnn : n ≤ 16777216 := Nat.le_trans (Nat.le_mul_of_pos_right n hk) hn
  refine ⟨hl, _, n, rfl, Nat.le_refl _, by omega, .inr ⟨_, rfl, by simp, fun hx => ?_, ?_⟩⟩
  · have := owned_lt env hx
    simp at this
  · have h4 := RepC.mono (Kept.of_below hb.b) (fun _ _ h => h) _ _ h3
    have e : (fun j => (w.alloc (.cells vs e)).cell? ((⟨w.heap.size, 0, none⟩ : Addr).add j)) = (fun j => vs[j]?) := funext fun j => by
      rw [add_plain]; simp only [World.cell?, heap_alloc_new w (.cells vs e)]; simp
    rw [e]; exact h4

def boundOf (f : Nat → AV) (d : Nat) : Option Operand → Nat → Prop
  | none, n => n = d
  | some x, n => ∃ ik z, evalT f x = .x (.int ik z) ∧ z = (n : Int)

theorem p_slice_str {t : TypeId} {x : Operand} {lo hi : Option Operand} {l r : Nat} {s : ByteArray} (ho : o.op = .slice t x lo hi none) (hx : evalT f x = .x (.string s)) (ht : P.underlying t = some .string) (hlo : boundOf f 0 lo l) (hhi : boundOf f s.size hi r) (h1 : l ≤ r) (h2 : r ≤ s.size) :
    PureOp P K N X h f o (.x (.string (s.extract l r))) := pure_run fun a w w0 env H => by
  rw [ho] at H
  have hx1 := H x (by simp [Op.operands])
  rw [hx, rep_x] at hx1
  have hlo' : ∀ v, lo.map a.eval = some v → ∃ ik, v = .int ik (l : Int) := fun v hv => by
    cases lo with
    | none => cases hv
    | some y =>
      obtain ⟨ik, z, hy, rfl⟩ := hlo
      have := H y (by simp [Op.operands])
      rw [hy, rep_x] at this
      simp only [Option.map_some, Option.some.injEq] at hv
      exact ⟨ik, by rw [← hv, this]⟩
  have hhi' : ∀ v, hi.map a.eval = some v → ∃ ik, v = .int ik (r : Int) := fun v hv => by
    cases hi with
    | none => cases hv
    | some y =>
      obtain ⟨ik, z, hy, rfl⟩ := hhi
      have := H y (by simp [Op.operands])
      rw [hy, rep_x] at this
      simp only [Option.map_some, Option.some.injEq] at hv
      exact ⟨ik, by rw [← hv, this]⟩
  refine ⟨.string (s.extract l r), ?_, rep_x.2 rfl⟩
  have hb : (Instr.sliceBounds false s.size s.size (lo.map a.eval) (hi.map a.eval) none).run P w = .ok (l, r, s.size) w := by
    unfold Instr.sliceBounds
    cases hlv : lo.map a.eval with
    | none =>
      have hl0 : l = 0 := by cases lo with | none => exact hlo | some y => cases hlv
      subst hl0
      cases hhv : hi.map a.eval with
      | none =>
        have : r = s.size := by cases hi with | none => exact hhi | some y => cases hhv
        subst this; simp
      | some v =>
        obtain ⟨ik, rfl⟩ := hhi' v hhv
        simp [Instr.sliceBound, asIntOf, h2]
    | some u =>
      obtain ⟨ik', rfl⟩ := hlo' u hlv
      cases hhv : hi.map a.eval with
      | none =>
        have : r = s.size := by cases hi with | none => exact hhi | some y => cases hhv
        subst this; simp [Instr.sliceBound, asIntOf, h1]
      | some v =>
        obtain ⟨ik, rfl⟩ := hhi' v hhv
        simp [Instr.sliceBound, asIntOf, h1, h2]
  have hu : (underlying t).run P w = .ok .string w := run_underlying ht w
  simp [execOp, ho, Instr.sliceAt, hu, Instr.slice, hx1, hb]
end

section
variable {P : Program} {C : Cx} {Q : Exit → AS → Prop} {s : AS} {ops : Array Oper} {o : Oper} {rest : List Oper}

/-- A nil slice is a row of nothing. -/
theorem st_nilrow {e : TypeId} {k : Nat} {a : Act} {w : World} (hs : C.St s a w) : C.St ⟨s.t, s.h ++ [.row (.slice none 0 0) e k 0 []]⟩ a w :=
  ⟨hs.env.push (Bl.refl _ _) ⟨[], World.ownsRow_nil _ _ _ _, rfl, by simp [RepC]⟩ (fun b hb => by cases hb), slots_push hs.env (Bl.refl _ _) (fun b hb => by cases hb) hs.slots⟩
theorem aw_nilrow {c : Code} (e : TypeId) (k : Nat) (kk : AW P C c Q ⟨s.t, s.h ++ [.row (.slice none 0 0) e k 0 []]⟩) : AW P C c Q s := fun a w hs => kk a w (st_nilrow hs)

/-- A row comes to rest: nobody writes it any more. -/
theorem st_freeze {i t : Nat} {v : Value} {e : TypeId} {k n : Nat} {cs : List AV} {a : Act} {w : World} (hi : s.h[i]? = some (.row v e k n cs)) (ht : s.t t = .x v) (hs : C.St s a w) : C.St ⟨upd s.t t (.sl k n cs), s.h.set i .dead⟩ a w := by
  have hg : w.grownBy w (HObj.row v e k n cs).blk := World.grownBy.refl _ _
  have hq : ∀ b, HObj.dead.blk = some b → (HObj.row v e k n cs).blk = some b ∨ w.heap.size ≤ b := fun b hb => by cases hb
  have env2 := hs.env.set_ (q := .dead) hi hg (fun _ => Nat.le_refl _) trivial hq (fun b hb => by cases hb)
  have sl2 := slots_set (q := .dead) hs.env hi hg hq hs.slots
  refine ⟨env2, sl2.defers, sl2.size, fun u => ?_⟩
  by_cases hu : u = t
  · subst hu
    show Rep _ _ (upd s.t u (.sl k n cs) u) _
    rw [upd_same]
    have h1 := hs.slots.slot u
    rw [ht, rep_x] at h1
    obtain ⟨vs, h2, h3, h4⟩ := hs.env.objs _ (List.mem_of_getElem? hi)
    simp only [Rep]
    refine ⟨by rw [← h3]; exact h2.1, ?_⟩
    rcases h2.2 with ⟨rfl, rfl⟩ | ⟨g, cap, cur, rfl, hb, hh, hn, hc, hsz, htk⟩
    · exact ⟨none, 0, h1, Nat.le_refl _, by omega, .inl (by simp)⟩
    · simp only [maxLen] at hc
      refine ⟨_, cap, h1, hn, hc, .inr ⟨_, rfl, (Array.getElem?_eq_some_iff.1 hh).1, ?_, ?_⟩⟩
      · rintro (hx | ⟨o, ho, hob⟩)
        · have h5 := hs.env.ext _ hx
          have h6 := hs.env.new _ (List.mem_of_getElem? hi) g rfl
          simp only at h5
          rcases h6 with h6 | h6
          · omega
          · exact h5.2 h6
        · obtain ⟨j, hj⟩ := List.mem_iff_getElem?.1 ho
          rw [List.getElem?_set] at hj
          split at hj
          · split at hj
            · obtain rfl : HObj.dead = o := by simpa using hj
              cases hob
            · cases hj
          · rename_i hne
            exact hne (hs.env.apart i j _ o g hi hj rfl hob)
      · have h5 := RepC.mono (Kept.refl _ w) (owned_set (q := .dead) hi hs.env hq) _ _ h4
        refine RepC.mk fun j c hj => ?_
        obtain ⟨u', hu', hr⟩ := h5.at_ j c hj
        exact ⟨u', h2.cells (g := g) rfl j u' hu', hr⟩
  · show Rep _ _ (upd s.t t (.sl k n cs) u) _
    rw [upd_ne _ _ hu]
    exact sl2.slot u
theorem aw_freeze {c : Code} (i t : Nat) {v : Value} {e : TypeId} {k n : Nat} {cs : List AV} (hi : s.h[i]? = some (.row v e k n cs)) (ht : s.t t = .x v) (kk : AW P C c Q ⟨upd s.t t (.sl k n cs), s.h.set i .dead⟩) : AW P C c Q s := fun a w hs => kk a w (st_freeze hi ht hs)

/-- append to a row of the call's own. -/
theorem awl_append {t e : TypeId} {x y : Operand} {i : Nat} {v : Value} {k n m bytes : Nat} {cs news : List AV} (hg : o.guard = none) (ho : o.op = .call { callee := .builtin .append, args := #[x, y], argTypes := #[t, t] }) (ht : P.underlying t = some (.slice e)) (he : rowOf P e = some (k, bytes))
    (hx : evalT s.t x = .x v) (hi : s.h[i]? = some (.row v e k n cs)) (hy : evalT s.t y = .sl k m news) (h1 : AV.ones news = true) (hb : (n + m) * bytes ≤ 140737488355328) (h63 : n + m ≤ 9223372036854775807)
    (kk : ∀ v', AWL P C ops Q rest ⟨putT C.N s.t o.dst (.x v'), s.h.set i (.row v' e k (n + m) (cs ++ news))⟩) : AWL P C ops Q (o :: rest) s := by
  intro a w hs
  refine wpList_plain hg fun K hK => ?_
  obtain ⟨ti, z, g1, g2, g3, g4, g5, g6⟩ := rowOf_spec he
  have hxe := hs.slots.eval x
  rw [hx, rep_x] at hxe
  have hye := hs.slots.eval y
  rw [hy] at hye
  simp only [Rep] at hye
  obtain ⟨hl, A, c, e1, hnc, hcm, hor⟩ := hye
  obtain ⟨vs, hown, hvl, hvr⟩ := hs.env.objs _ (List.mem_of_getElem? hi)
  have hvals : ∃ us : List Value, us.length = news.length ∧ Reads w w.heap.size k A m us ∧ RepC (owned C.X s.h) w news (fun j => us[j]?) := by
    rcases hor with h0 | ⟨ad, rfl, hbl, hO, hc⟩
    · have hm0 : m = 0 := by
        rcases Nat.mul_eq_zero.1 h0 with h | h
        · exact h
        · omega
      subst hm0
      have : news = [] := List.eq_nil_of_length_eq_zero (by simpa using hl)
      subst this
      exact ⟨[], rfl, ⟨by simp, fun h => absurd h (by omega)⟩, by simp [RepC]⟩
    · obtain ⟨us, h2, h3, h4⟩ := repC_vals hc
      exact ⟨us, h2, ⟨by rw [h2, hl], fun _ => ⟨ad, rfl, hbl, h3⟩⟩, h4⟩
  obtain ⟨us, hul, hreads, hur⟩ := hvals
  have hone := AV.ones_spec h1 hul hur
  obtain ⟨v', w', hrun, hown', hgr, hblk⟩ := run_append_any (P := P) w 0 t o.type e ti z k bytes ht g1 g2 g3 g4 g5 g6 v n vs hown w.heap.size A m c us hreads hone (by simp only [maxLen]; omega) hb (Nat.zero_le _)
  have hdr : w.drawn ≤ w'.drawn := run_drawn _ w hrun
  have hrun2 : (execOp a.eval o).run P w = .ok (.value v') w' := by
    simp only [execOp, ho, resolve, invoke, builtin, Sem.run_bind, Sem.run_pure, Result.andThen_ok, List.map_toArray, List.map_cons, List.map_nil, hxe, e1, hrun]
  unfold Oper.wp
  rw [hrun2]
  refine hK _ _ (kk v' _ _ ?_)
  have hq : ∀ b, (HObj.row v' e k (n + m) (cs ++ news)).blk = some b → (HObj.row v e k n cs).blk = some b ∨ w.heap.size ≤ b := fun b hb => by
    simp only [HObj.blk] at hb ⊢
    rcases hblk with h | h
    · exact .inl (h ▸ hb)
    · rw [h] at hb; injection hb with hb; exact .inr (by omega)
  have hgr' : w.grownBy w' (HObj.row v e k n cs).blk := hgr
  have hO := owned_set hi hs.env hq
  have hkeep : Kept (owned C.X s.h) w w' := ⟨hgr.size, fun b hlt hO => hgr.block b hlt fun e => hO (.inr ⟨_, List.mem_of_getElem? hi, e.symm⟩)⟩
  refine ⟨hs.env.set_ hi hgr' (fun _ => hdr) ⟨vs ++ us, hown', by simp [hvl, hul], ?_⟩ hq (fun b hb => (hown'.lt b hb).2), (slots_set hs.env hi hgr' hq hs.slots).put o.dst (rep_x.2 rfl)⟩
  exact RepC.mono hkeep hO _ _ (RepC.append hvl hvr hur)
end
end Go.Proofs.Ytmhkalalcmkpbaa

namespace Go.Proofs.Ytmhkalalcmkpbaa
open Go Go.RowKit
set_option linter.unusedVariables false
set_option linter.unusedSimpArgs false

structure W (P : Program) (C : Cx) (c : Code) (Q : Exit → AS → Prop) (s : AS) : Prop where
  run : AW P C c Q s
/-- A list of operations: in order (none), or the first ones of a region that draws (some tail). -/
structure WL (m : Option (List Oper)) (P : Program) (C : Cx) (ops : Array Oper) (Q : Exit → AS → Prop) (l : List Oper) (s : AS) : Prop where
  run : match m with | none => AWL P C ops Q l s | some tail => Chain P C.w0.K C.N C.X s.h ops l s.t fun f => AWL P C ops Q tail ⟨f, s.h⟩

def thenW (n : AS → Prop) (Q : Exit → AS → Prop) : Exit → AS → Prop
  | .normal, s => n s
  | e, s => Q e s

section
variable {P : Program} {C : Cx} {Q : Exit → AS → Prop} {f : Nat → AV} {h : List HObj} {s : AS} {m : Option (List Oper)} {ops : Array Oper} {o : Oper} {rest : List Oper}

theorem wSkip (k : Q .normal s) : W P C .skip Q s := ⟨aw_skip k⟩
theorem wExit {i : Nat} (k : Q (.exit i) s) : W P C (.exit i) Q s := ⟨aw_exit k⟩
theorem wRet (k : Q .ret s) : W P C .ret Q s := ⟨aw_ret k⟩
theorem wSeq {x y : Code} (k : W P C x (thenW (W P C y Q) Q) s) : W P C (.seq x y) Q s :=
  ⟨aw_seq (aw_mono k.run fun e s hq => by cases e <;> first | exact hq.run | exact hq)⟩
theorem wCond {c : Operand} {x y : Code} {b : Bool} (hc : evalT f c = .x (.bool b)) (k1 : b = true → W P C x Q ⟨f, h⟩) (k2 : b = false → W P C y Q ⟨f, h⟩) : W P C (.cond c x y) Q ⟨f, h⟩ := ⟨aw_cond hc (fun e => (k1 e).run) fun e => (k2 e).run⟩
theorem wBlock {i : Nat} {c : Code} (k : W P C c (inB i Q) s) : W P C (.block i c) Q s := ⟨aw_block k.run⟩
theorem wReg {i : Nat} {l : List Oper} (k : WL none P C l.toArray Q l s) : W P C (.region i l.toArray false) Q s := ⟨aw_region k.run⟩
theorem wDraw {i : Nat} {l : List Oper} (n : Nat) (hm : P.follows .mixedOrders = true) (hok : drawOk l.toArray n C.N = true) (k : WL (some (l.drop n)) P C l.toArray Q (l.take n) s) : W P C (.region i l.toArray true) Q s :=
  ⟨aw_draw hm n hok (by simpa using k.run)⟩
theorem lNil (k : Q .normal s) : WL none P C ops Q [] s := ⟨awl_nil k⟩
theorem lTail {tail : List Oper} (k : WL none P C ops Q tail s) : WL (some tail) P C ops Q [] s := ⟨k.run⟩

theorem putT_upd {N : Nat} {f : Nat → AV} {d : Nat} {av : AV} (hN : Nat.blt d N = true) : putT N f (some d) av = upd f d av := by simp [putT, hN]

/-- An operation that gives a value. -/
theorem sP {av : AV} {d : Nat} (hg : o.guard = none) (hd : o.dst = some d) (hN : Nat.blt d C.N = true) (hp : PureOp P C.w0.K C.N C.X h f o av) (k : WL m P C ops Q rest ⟨upd f d av, h⟩) : WL m P C ops Q (o :: rest) ⟨f, h⟩ := by
  cases m with
  | none =>
    refine ⟨awl_pure av hg hp ?_⟩
    rw [hd, putT_upd hN]; exact k.run
  | some tail =>
    refine ⟨chain_pure av hg hp ?_⟩
    rw [hd, putT_upd hN]; exact k.run
/-- A guarded one that is wanted; one that is not. -/
theorem sG {av : AV} {d j t : Nat} {b : Bool} (hg : o.guard = some (j, b)) (hj : (ops[j]?).bind (·.dst) = some t) (ht : f t = .x (.bool b)) (hd : o.dst = some d) (hN : Nat.blt d C.N = true) (hp : PureOp P C.w0.K C.N C.X h f o av) (k : WL m P C ops Q rest ⟨upd f d av, h⟩) : WL m P C ops Q (o :: rest) ⟨f, h⟩ := by
  cases m with
  | none =>
    refine ⟨awl_wanted av hg hj ht hp ?_⟩
    rw [hd, putT_upd hN]; exact k.run
  | some tail =>
    refine ⟨chain_wanted av hg hj ht hp ?_⟩
    rw [hd, putT_upd hN]; exact k.run
theorem sU {d j t : Nat} {b b' : Bool} (hg : o.guard = some (j, b)) (hj : (ops[j]?).bind (·.dst) = some t) (ht : f t = .x (.bool b')) (hb : b' ≠ b) (hd : o.dst = some d) (hN : Nat.blt d C.N = true) (k : WL m P C ops Q rest ⟨upd f d .any, h⟩) : WL m P C ops Q (o :: rest) ⟨f, h⟩ := by
  cases m with
  | none =>
    refine ⟨awl_unwanted hg hj ht hb ?_⟩
    rw [hd, putT_upd hN]; exact k.run
  | some tail =>
    refine ⟨chain_unwanted hg hj ht hb ?_⟩
    rw [hd, putT_upd hN]; exact k.run
theorem sAlloc {T : TypeId} {zs : List Value} {d : Nat} (hg : o.guard = none) (hd : o.dst = some d) (hN : Nat.blt d C.N = true) (ho : o.op = .alloc T) (hz : tyZero P T = some zs)
    (k : ∀ g, WL none P C ops Q rest ⟨upd f d (.x (.pointer (some ⟨g, 0, none⟩))), h ++ [.cells g T (zs.map .x)]⟩) : WL none P C ops Q (o :: rest) ⟨f, h⟩ :=
  ⟨awl_alloc hg ho hz fun g => by rw [hd, putT_upd hN]; exact (k g).run⟩
theorem sBox {T : TypeId} {x : Operand} {cs : List AV} {d : Nat} (hg : o.guard = none) (hd : o.dst = some d) (hN : Nat.blt d C.N = true) (ho : o.op = .box T x) (hx : evalT f x = .agg cs)
    (k : ∀ g, WL none P C ops Q rest ⟨upd f d (.x (.pointer (some ⟨g, 0, none⟩))), h ++ [.cells g T cs]⟩) : WL none P C ops Q (o :: rest) ⟨f, h⟩ :=
  ⟨awl_box (s := ⟨f, h⟩) hg ho (by show (evalT f x).flat = true; rw [hx]; rfl) fun g => by rw [hd, putT_upd hN]; show AWL P C ops Q rest ⟨_, h ++ [.cells g T (evalT f x).cells]⟩; rw [hx]; exact (k g).run⟩
theorem sBox1 {T : TypeId} {x : Operand} {c : AV} {d : Nat} (hg : o.guard = none) (hd : o.dst = some d) (hN : Nat.blt d C.N = true) (ho : o.op = .box T x) (hx : evalT f x = c) (h1 : c.one = true)
    (k : ∀ g, WL none P C ops Q rest ⟨upd f d (.x (.pointer (some ⟨g, 0, none⟩))), h ++ [.cells g T [c]]⟩) : WL none P C ops Q (o :: rest) ⟨f, h⟩ := by
  have hf : c.flat = true := by cases c <;> first | rfl | exact h1 | cases h1
  have hc : c.cells = [c] := by cases c <;> first | rfl | cases h1
  exact ⟨awl_box (s := ⟨f, h⟩) hg ho (by show (evalT f x).flat = true; rw [hx]; exact hf) fun g => by rw [hd, putT_upd hN]; show AWL P C ops Q rest ⟨_, h ++ [.cells g T (evalT f x).cells]⟩; rw [hx, hc]; exact (k g).run⟩
/-- A store of a struct or an array. -/
theorem sStore {T : TypeId} {x y : Operand} {g off : Nat} (i : Nat) {T' : TypeId} {cs news : List AV} {b : Bool} {kk : Nat} (hg : o.guard = none) (hd : o.dst = none) (ho : o.op = .store T x y) (hx : evalT f x = .x (.pointer (some ⟨g, off, none⟩))) (hi : h[i]? = some (.cells g T' cs)) (ht : tyOf P T = some (b, kk))
    (hy : evalT f y = .agg news) (h1 : AV.ones news = true) (hk : news.length = kk) (hoff : off + kk ≤ cs.length)
    (k : WL none P C ops Q rest ⟨f, h.set i (.cells g T' (spl cs off news))⟩) : WL none P C ops Q (o :: rest) ⟨f, h⟩ :=
  ⟨awl_store (s := ⟨f, h⟩) hg ho hx hi ht (by show (evalT f y).flat = true; rw [hy]; rfl) (by show AV.ones (evalT f y).cells = true; rw [hy]; exact h1) (by show (evalT f y).cells.length = kk; rw [hy]; exact hk) hoff (by
    rw [hd]; show AWL P C ops Q rest ⟨f, h.set i (.cells g T' (spl cs off (evalT f y).cells))⟩; rw [hy]; exact k.run)⟩
theorem spl_one {α : Type} {cs : List α} {off : Nat} {c : α} (h : off < cs.length) : spl cs off [c] = cs.set off c := by
  apply List.ext_getElem?
  intro j
  rw [spl_get (by simp; omega), List.getElem?_set]
  simp only [List.length_singleton]
  by_cases h1 : j < off
  · rw [if_pos h1, if_neg (by omega)]
  · by_cases h2 : off = j
    · subst h2; simp [h]
    · rw [if_neg h1, if_neg (by omega), if_neg h2]
/-- A store of one cell. -/
theorem sStore1 {T : TypeId} {x y : Operand} {g off : Nat} (i : Nat) {T' : TypeId} {cs : List AV} {c : AV} {b : Bool} (hg : o.guard = none) (hd : o.dst = none) (ho : o.op = .store T x y) (hx : evalT f x = .x (.pointer (some ⟨g, off, none⟩))) (hi : h[i]? = some (.cells g T' cs)) (ht : tyOf P T = some (b, 1))
    (hy : evalT f y = c) (h1 : c.one = true) (hoff : off < cs.length)
    (k : WL none P C ops Q rest ⟨f, h.set i (.cells g T' (cs.set off c))⟩) : WL none P C ops Q (o :: rest) ⟨f, h⟩ := by
  have hf : c.flat = true := by cases c <;> first | rfl | exact h1 | cases h1
  have hc : c.cells = [c] := by cases c <;> first | rfl | cases h1
  exact ⟨awl_store (s := ⟨f, h⟩) hg ho hx hi ht (by show (evalT f y).flat = true; rw [hy]; exact hf) (by show AV.ones (evalT f y).cells = true; rw [hy, hc]; simp [AV.ones, h1]) (by show (evalT f y).cells.length = 1; rw [hy, hc]; rfl) (by omega) (by
    rw [hd]; show AWL P C ops Q rest ⟨f, h.set i (.cells g T' (spl cs off (evalT f y).cells))⟩; rw [hy, hc, spl_one hoff]; exact k.run)⟩
theorem sAppend {t e : TypeId} {x y : Operand} (i : Nat) {v : Value} {kk n mm bytes d : Nat} {cs news : List AV} (hg : o.guard = none) (hd : o.dst = some d) (hN : Nat.blt d C.N = true) (ho : o.op = .call { callee := .builtin .append, args := #[x, y], argTypes := #[t, t] }) (ht : P.underlying t = some (.slice e)) (he : rowOf P e = some (kk, bytes))
    (hx : evalT f x = .x v) (hi : h[i]? = some (.row v e kk n cs)) (hy : evalT f y = .sl kk mm news) (h1 : AV.ones news = true) (hb : (n + mm) * bytes ≤ 140737488355328) (h63 : n + mm ≤ 9223372036854775807)
    (k : ∀ v', WL none P C ops Q rest ⟨upd f d (.x v'), h.set i (.row v' e kk (n + mm) (cs ++ news))⟩) : WL none P C ops Q (o :: rest) ⟨f, h⟩ :=
  ⟨awl_append (s := ⟨f, h⟩) hg ho ht he hx hi hy h1 hb h63 fun v' => by rw [hd, putT_upd hN]; exact (k v').run⟩
theorem wNilrow {c : Code} (e : TypeId) (k : Nat) (kk : W P C c Q ⟨f, h ++ [.row (.slice none 0 0) e k 0 []]⟩) : W P C c Q ⟨f, h⟩ := ⟨aw_nilrow (s := ⟨f, h⟩) e k kk.run⟩
theorem wFreeze {c : Code} (i t : Nat) {v : Value} {e : TypeId} {k n : Nat} {cs : List AV} (hi : h[i]? = some (.row v e k n cs)) (ht : f t = .x v) (kk : W P C c Q ⟨upd f t (.sl k n cs), h.set i .dead⟩) : W P C c Q ⟨f, h⟩ := ⟨aw_freeze (s := ⟨f, h⟩) i t hi ht kk.run⟩

/-- A loop: l holds at its head, and h' of the blocks, with the measure. -/
theorem wLoop {c : Code} (I : Nat → List (Nat × AV) → List HObj → Prop) (h0 : ∃ mm l h' r, I mm l h' ∧ AllEq f l ∧ h = h' ++ r)
    (hr : ∀ mm l h, I mm l h → W P C c (thenW (fun s' => ∃ m' l' h' r, m' < mm ∧ I m' l' h' ∧ AllEq s'.t l' ∧ s'.h = h' ++ r) Q) ⟨tab l, h⟩) : W P C (.loop c) Q ⟨f, h⟩ := by
  refine ⟨aw_loop (fun mm s => ∃ l, s.t = tab l ∧ I mm l s.h) ?_ fun mm s hI => ?_⟩
  · obtain ⟨mm, l, h', r, hi, ha, hh⟩ := h0
    exact ⟨mm, ⟨tab l, h'⟩, ⟨l, rfl, hi⟩, wk_tab (s := ⟨f, h⟩) hh ha⟩
  · obtain ⟨l, hl, hi⟩ := hI
    have := (hr mm l s.h hi).run
    have e : s = ⟨tab l, s.h⟩ := by cases s; simp only at hl; subst hl; rfl
    rw [e]
    refine aw_mono this fun e s' hq => ?_
    cases e with
    | normal =>
      obtain ⟨m', l', h', r, h1, h2, h3, h4⟩ := hq
      exact ⟨m', ⟨tab l', h'⟩, h1, ⟨l', rfl, h2⟩, wk_tab h4 h3⟩
    | _ => exact hq
/-- A cut: behind a piece of code, l holds, and h' of the blocks. -/
theorem wCut {x y : Code} (M : List (Nat × AV) → List HObj → Prop) (k : W P C x (thenW (fun s' => ∃ l' h' r, M l' h' ∧ AllEq s'.t l' ∧ s'.h = h' ++ r) Q) s) (hy : ∀ l h, M l h → W P C y Q ⟨tab l, h⟩) : W P C (.seq x y) Q s :=
  ⟨aw_cut (fun s => ∃ l, s = ⟨tab l, s.h⟩ ∧ M l s.h) (aw_mono k.run fun e s' hq => by
    cases e with
    | normal =>
      obtain ⟨l', h', r, h1, h2, h3⟩ := hq
      exact ⟨⟨tab l', h'⟩, ⟨l', rfl, h1⟩, wk_tab h3 h2⟩
    | _ => exact hq) fun s ⟨l, hl, hm⟩ => by rw [hl]; exact (hy l s.h hm).run⟩
/-- Only these slots matter, and these blocks. -/
theorem wKeep {c : Code} (l : List (Nat × AV)) (h' r : List HObj) (ha : AllEq f l) (hh : h = h' ++ r) (k : W P C c Q ⟨tab l, h'⟩) : W P C c Q ⟨f, h⟩ := ⟨aw_weaken (wk_tab (s := ⟨f, h⟩) hh ha) k.run⟩

/-- Moves, by what they move. -/
theorem pM {x : Operand} {v : Value} {K : Prop} {N : Nat} {X : Nat → Prop} (ho : o.op = .move x) (hx : evalT f x = .x v) : PureOp P K N X h f o (.x v) := hx ▸ p_move ho
theorem pMs {x : Operand} {k n : Nat} {cs : List AV} {K : Prop} {N : Nat} {X : Nat → Prop} (ho : o.op = .move x) (hx : evalT f x = .sl k n cs) : PureOp P K N X h f o (.sl k n cs) := hx ▸ p_move ho
theorem pMt {x : Operand} {cs : List AV} {K : Prop} {N : Nat} {X : Nat → Prop} (ho : o.op = .move x) (hx : evalT f x = .tup cs) : PureOp P K N X h f o (.tup cs) := hx ▸ p_move ho
theorem pMf {x : Operand} {g : FuncId} {cs : List AV} {K : Prop} {N : Nat} {X : Nat → Prop} (ho : o.op = .move x) (hx : evalT f x = .fn g cs) : PureOp P K N X h f o (.fn g cs) := hx ▸ p_move ho
theorem pAf {x : Operand} {g : FuncId} {cs : List AV} {K : Prop} {N : Nat} {X : Nat → Prop} (ho : o.op = .assign x) (hx : evalT f x = .fn g cs) : PureOp P K N X h f o (.fn g cs) := hx ▸ p_assign ho
theorem pA {x : Operand} {v : Value} {K : Prop} {N : Nat} {X : Nat → Prop} (ho : o.op = .assign x) (hx : evalT f x = .x v) : PureOp P K N X h f o (.x v) := hx ▸ p_assign ho
theorem pAs {x : Operand} {k n : Nat} {cs : List AV} {K : Prop} {N : Nat} {X : Nat → Prop} (ho : o.op = .assign x) (hx : evalT f x = .sl k n cs) : PureOp P K N X h f o (.sl k n cs) := hx ▸ p_assign ho
/-- An element of a slice of things, and what is read there. -/
theorem drop_flatMap {α : Type} {enc : α → List AV} {k : Nat} (hk : ∀ x, (enc x).length = k) : ∀ {l : List α} {i : Nat} {x : α}, l[i]? = some x → (l.flatMap enc).drop (i * k) = enc x ++ (l.drop (i + 1)).flatMap enc
  | [], i, x, h => by simp at h
  | y :: l, 0, x, h => by
    obtain rfl : y = x := by simpa using h
    simp
  | y :: l, i + 1, x, h => by
    have := drop_flatMap hk (l := l) (i := i) (x := x) (by simpa using h)
    rw [List.flatMap_cons, show (i + 1) * k = (enc y).length + i * k by rw [hk, Nat.add_mul, Nat.one_mul, Nat.add_comm], List.drop_append, List.drop_eq_nil_of_le (by omega), List.nil_append, Nat.add_sub_cancel_left, this]
    simp
theorem pIdx {α : Type} {enc : α → List AV} {K : Prop} {N : Nat} {X : Nat → Prop} {t e : TypeId} {x y : Operand} {k n : Nat} {l : List α} {a : α} (i : Nat) {b : Bool} {ik : IntKind} {z : Int} (ho : o.op = .indexAddr t x y) (hx : evalT f x = .sl k n (l.flatMap enc)) (ht : P.underlying t = some (.slice e)) (he : tyOf P e = some (b, k)) (hk : k ≠ 0)
    (hy : evalT f y = .x (.int ik z)) (hl : ∀ x, (enc x).length = k) (hn : n = l.length) (hz : z = (i : Int)) (hi : l[i]? = some a) : PureOp P K N X h f o (.ip (enc a ++ (l.drop (i + 1)).flatMap enc)) := by
  have := p_indexAddr_sl (K := K) (N := N) (X := X) (h := h) ho hx ht he hk hy hz (by rw [hn]; exact (List.getElem?_eq_some_iff.1 hi).1)
  rw [drop_flatMap hl hi] at this
  exact this
theorem pLdE {K : Prop} {N : Nat} {X : Nat → Prop} {t : TypeId} {x : Operand} {cs ds : List AV} {k : Nat} (ho : o.op = .load t x) (hx : evalT f x = .ip (cs ++ ds)) (ht : tyOf P t = some (true, k)) (hl : cs.length = k) : PureOp P K N X h f o (.agg cs) :=
  p_load_ip ho hx ht (.inl ⟨rfl, by simp; omega, by rw [← hl]; simp⟩)
theorem pLd1 {K : Prop} {N : Nat} {X : Nat → Prop} {t : TypeId} {x : Operand} {c : AV} {ds : List AV} (ho : o.op = .load t x) (hx : evalT f x = .ip (c :: ds)) (ht : tyOf P t = some (false, 1)) : PureOp P K N X h f o c :=
  p_load_ip ho hx ht (.inr ⟨rfl, rfl⟩)
theorem pLdO1 {K : Prop} {N : Nat} {X : Nat → Prop} {t : TypeId} {x : Operand} {g off : Nat} (i : Nat) {T : TypeId} {cs : List AV} {c : AV} (ho : o.op = .load t x) (hx : evalT f x = .x (.pointer (some ⟨g, off, none⟩))) (hm : h[i]? = some (.cells g T cs)) (ht : tyOf P t = some (false, 1)) (hc : cs[off]? = some c) : PureOp P K N X h f o c :=
  p_load_own ho hx (List.mem_of_getElem? hm) ht (.inr ⟨rfl, by simpa using hc⟩)
theorem pLdO {K : Prop} {N : Nat} {X : Nat → Prop} {t : TypeId} {x : Operand} {g off k : Nat} (i : Nat) {T : TypeId} {cs res : List AV} (ho : o.op = .load t x) (hx : evalT f x = .x (.pointer (some ⟨g, off, none⟩))) (hm : h[i]? = some (.cells g T cs)) (ht : tyOf P t = some (true, k)) (hk : off + k ≤ cs.length) (hr : (cs.drop off).take k = res) : PureOp P K N X h f o (.agg res) :=
  p_load_own ho hx (List.mem_of_getElem? hm) ht (.inl ⟨rfl, by simp; omega, by rw [hr]⟩)
theorem pLdW {K : Prop} {N : Nat} {X : Nat → Prop} {t : TypeId} {x : Operand} {g k : Nat} (i : Nat) {T : TypeId} {cs : List AV} (ho : o.op = .load t x) (hx : evalT f x = .x (.pointer (some ⟨g, 0, none⟩))) (hm : h[i]? = some (.cells g T cs)) (ht : tyOf P t = some (true, k)) (hk : cs.length = k) : PureOp P K N X h f o (.agg cs) :=
  pLdO i ho hx hm ht (by omega) (by simp [← hk])
end

/-- The walk's start. -/
theorem pfn {P : Program} {K : Prop} {g : FuncId} {fn : Func} {c : Code} {avs : List AV} {av : AV} (hf : P.funcs[g]? = some fn) (hb : fn.body = some c) (hn : (fn.name == "runtime.NumGoroutine") = false) (N : Nat) (hN : fn.ntmps = N) (rs : Array ResultVar) (hrs : fn.results = rs) (hl : avs.length ≤ N)
    (H : ∀ (X : Nat → Prop) (w0 : World), W P ⟨N, X, ⟨w0, fun _ => False, K⟩⟩ c (Ends P ⟨N, X, ⟨w0, fun _ => False, K⟩⟩ rs av) ⟨args0 avs, []⟩) : PFn P K g avs av := pfn_of hf hb hn N hN rs hrs hl fun X w0 => (H X w0).run
end Go.Proofs.Ytmhkalalcmkpbaa

namespace Go.Proofs.Ytmhkalalcmkpbaa
open Go Go.RowKit
set_option linter.unusedVariables false
set_option linter.unusedSimpArgs false

mutual
def AV.ex : AV → Bool
  | .x _ => true
  | .agg cs => AV.exL cs
  | .tup cs => AV.exL cs
  | _ => false
def AV.exL : List AV → Bool
  | [] => true
  | c :: cs => c.ex && AV.exL cs
end
mutual
def AV.val : AV → Value
  | .x v => v
  | .agg cs => .agg (AV.vals cs).toArray
  | .tup cs => .tuple (AV.vals cs).toArray
  | _ => undef
def AV.vals : List AV → List Value
  | [] => []
  | c :: cs => c.val :: AV.vals cs
end
mutual
theorem AV.rep_val {O : Nat → Prop} {w : World} : ∀ (a : AV), a.ex = true → ∀ v, Rep O w a v ↔ v = a.val
  | .x u, _, v => by simp only [Rep, AV.val]
  | .agg cs, h, v => by
    simp only [AV.ex] at h
    simp only [Rep, AV.val]
    constructor
    · rintro ⟨us, rfl, h1, h2⟩
      have := (AV.repC_vals_ cs h us.toList (by simpa using h1)).1 (by
        have e : (fun j => us.toList[j]?) = (fun j => us[j]?) := funext fun j => Array.getElem?_toList
        rw [e]; exact h2)
      rw [← this]
    · rintro rfl
      refine ⟨_, rfl, ?_, ?_⟩
      · simp [AV.vals_len cs]
      · have := (AV.repC_vals_ (O := O) (w := w) cs h (AV.vals cs) (AV.vals_len cs)).2 rfl
        have e : (fun j => (AV.vals cs).toArray[j]?) = (fun j => (AV.vals cs)[j]?) := funext fun j => List.getElem?_toArray
        rw [e]; exact this
  | .tup cs, h, v => by
    simp only [AV.ex] at h
    simp only [Rep, AV.val]
    constructor
    · rintro ⟨us, rfl, h1, h2⟩
      have := (AV.repC_vals_ cs h us.toList (by simpa using h1)).1 (by
        have e : (fun j => us.toList[j]?) = (fun j => us[j]?) := funext fun j => Array.getElem?_toList
        rw [e]; exact h2)
      rw [← this]
    · rintro rfl
      refine ⟨_, rfl, ?_, ?_⟩
      · simp [AV.vals_len cs]
      · have := (AV.repC_vals_ (O := O) (w := w) cs h (AV.vals cs) (AV.vals_len cs)).2 rfl
        have e : (fun j => (AV.vals cs).toArray[j]?) = (fun j => (AV.vals cs)[j]?) := funext fun j => List.getElem?_toArray
        rw [e]; exact this
  | .sl _ _ _, h, _ => by cases h
  | .ip _, h, _ => by cases h
  | .fn _ _, h, _ => by cases h
  | .any, h, _ => by cases h
theorem AV.vals_len : ∀ (cs : List AV), (AV.vals cs).length = cs.length
  | [] => rfl
  | c :: cs => by simp only [AV.vals, List.length_cons, AV.vals_len cs]
theorem AV.repC_vals_ {O : Nat → Prop} {w : World} : ∀ (cs : List AV), AV.exL cs = true → ∀ us : List Value, us.length = cs.length → (RepC O w cs (fun j => us[j]?) ↔ us = AV.vals cs)
  | [], _, us, hl => by
    have : us = [] := List.eq_nil_of_length_eq_zero (by simpa using hl)
    subst this
    simp [RepC, AV.vals]
  | c :: cs, h, us, hl => by
    simp only [AV.exL, Bool.and_eq_true] at h
    match us, hl with
    | u :: us, hl =>
      have ih := AV.repC_vals_ (O := O) (w := w) cs h.2 us (by simpa using hl)
      have i1 := AV.rep_val (O := O) (w := w) c h.1 u
      simp only [RepC, AV.vals, List.cons.injEq]
      constructor
      · rintro ⟨⟨u', hu, hr⟩, h2⟩
        obtain rfl : u = u' := by simpa using hu
        exact ⟨i1.1 hr, ih.1 (by simpa using h2)⟩
      · rintro ⟨h1, h2⟩
        exact ⟨⟨u, rfl, i1.2 h1⟩, by simpa using ih.2 h2⟩
end

/-- A contract that was shown at values known just. -/
theorem pfn_ex {P : Program} {K : Prop} {g : FuncId} {avs : List AV} {av : AV} (h1 : AV.exL avs = true) (h2 : av.ex = true) (he : ∀ (args : Array Value) (w : World), (callFunc g args).run P w = .ok (.enter g args) w)
    (hc : ∀ w, Calls P g (AV.vals avs).toArray w fun e w' => e = .returned av.val ∧ Bl K w w') : PFn P K g avs av :=
  ⟨he, fun O w args hO hl hr => by
    have := (AV.repC_vals_ (O := O) (w := w) avs h1 args.toList (by simpa using hl)).1 (by
      have e : (fun j => args.toList[j]?) = (fun j => args[j]?) := funext fun j => Array.getElem?_toList
      rw [e]; exact hr)
    have e2 : args = (AV.vals avs).toArray := by rw [← this]
    rw [e2]
    exact (hc w).mono fun e w' ⟨h3, h4⟩ => ⟨_, h3, (AV.rep_val av h2 _).2 rfl, h4⟩⟩

/-- A function that may write the blocks that it is handed (h), and gives back others (as R says). -/
structure MFn (P : Program) (K : Prop) (g : FuncId) (avs : List AV) (h : List HObj) (R : AV → List HObj → Prop) : Prop where
  enter : ∀ (args : Array Value) (w : World), (callFunc g args).run P w = .ok (.enter g args) w
  calls : ∀ (O : Nat → Prop) (w : World) (args : Array Value), Env O ⟨w, fun b => ∃ o ∈ h, o.blk = some b, K⟩ h w → args.size = avs.length → RepC (owned O h) w avs (fun j => args[j]?) →
    Calls P g args w fun e w' => ∃ r av h', e = .returned r ∧ R av h' ∧ Env O ⟨w, fun b => ∃ o ∈ h, o.blk = some b, K⟩ h' w' ∧ Rep (owned O h') w' av r

/-- One result of such a function. -/
def RGm (P : Program) (N : Nat) (X : Nat → Prop) (s : AS) (h' : List HObj) (rs : Array ResultVar) (av : AV) : Prop := ∀ (w0 : Orig) (w : World) (a : Act), St N X w0 s a w → ∀ fn : Func, fn.results = rs → ∃ v, (results fn a.tmps).run P w = .ok v w ∧ Rep (owned X h') w av v
def EndsM (P : Program) (C : Cx) (rs : Array ResultVar) (R : AV → List HObj → Prop) : Exit → AS → Prop
  | .normal, s => ∃ av h' r, s.h = h' ++ r ∧ R av h' ∧ RGm P C.N C.X s h' rs av
  | .ret, s => ∃ av h' r, s.h = h' ++ r ∧ R av h' ∧ RGm P C.N C.X s h' rs av
  | _, _ => False
theorem rgm_tmp {P : Program} {N : Nat} {X : Nat → Prop} {s : AS} {t : Nat} {av : AV} {h' r : List HObj} (hh : s.h = h' ++ r) (hg : Sub (s.t t) av) : RGm P N X s h' #[.tmp t] av := fun w0 w a hs fn hf =>
  ⟨a.tmps.getD t undef, by rw [results_eq, hf]; simp [rvRun], Rep.mono (Kept.refl _ _) (fun b _ hb => by rw [hh]; exact owned_pre hb) _ _ (hg _ _ _ (hs.slots.slot t))⟩
theorem rgm_none {P : Program} {N : Nat} {X : Nat → Prop} {s : AS} {h' : List HObj} : RGm P N X s h' #[] (.tup []) := fun w0 w a hs fn hf => ⟨.tuple #[], by rw [results_eq, hf]; simp, by simp only [Rep]; exact ⟨#[], rfl, rfl, by simp [RepC]⟩⟩
theorem mfn {P : Program} {K : Prop} {g : FuncId} {fn : Func} {c : Code} {avs : List AV} {h : List HObj} {R : AV → List HObj → Prop} (hf : P.funcs[g]? = some fn) (hb : fn.body = some c) (hn : (fn.name == "runtime.NumGoroutine") = false) (N : Nat) (hN : fn.ntmps = N) (rs : Array ResultVar) (hrs : fn.results = rs) (hl : avs.length ≤ N)
    (H : ∀ (X : Nat → Prop) (w0 : World), W P ⟨N, X, ⟨w0, fun b => ∃ o ∈ h, o.blk = some b, K⟩⟩ c (EndsM P ⟨N, X, ⟨w0, fun b => ∃ o ∈ h, o.blk = some b, K⟩⟩ rs R) ⟨args0 avs, h⟩) : MFn P K g avs h R := by
  refine ⟨enter_of hf hn (by rw [hb]; rfl), fun O w args env hsz hr => ?_⟩
  refine calls_of_wp hf hb ?_
  have hst : (Cx.mk N O ⟨w, fun b => ∃ o ∈ h, o.blk = some b, K⟩).St ⟨args0 avs, h⟩ { tmps := args ++ Array.replicate (fn.ntmps - args.size) undef, defers := [] } w := by
    refine ⟨env, rfl, ?_, fun t => ?_⟩
    · simp; omega
    · show Rep _ _ ((avs[t]?).getD .any) _
      cases hv : avs[t]? with
      | none => simp only [Option.getD_none, Rep]
      | some av =>
        obtain ⟨u, hu, hru⟩ := hr.at_ t av hv
        have hu' : args[t]? = some u := hu
        have hlt : t < args.size := (Array.getElem?_eq_some_iff.1 hu').1
        have e : (args ++ Array.replicate (fn.ntmps - args.size) undef).getD t undef = u := by
          rw [Array.getD_eq_getD_getElem?, Array.getElem?_append_left hlt, hu']; rfl
        simp only [Option.getD_some]
        show Rep _ _ _ ((args ++ Array.replicate (fn.ntmps - args.size) undef).getD t undef)
        rw [e]
        exact hru
  have fin : ∀ (s : AS) (a : Act) (w' : World), (Cx.mk N O ⟨w, fun b => ∃ o ∈ h, o.blk = some b, K⟩).St s a w' → (∃ av h' r, s.h = h' ++ r ∧ R av h' ∧ RGm P N O s h' rs av) →
      a.defers = [] ∧ ∃ v, (results fn a.tmps).run P w' = .ok v w' ∧ ∃ r av h', Ending.returned v = .returned r ∧ R av h' ∧ Env O ⟨w, fun b => ∃ o ∈ h, o.blk = some b, K⟩ h' w' ∧ Rep (owned O h') w' av r := by
    rintro s a w' hs ⟨av, h', r, h1, h2, h3⟩
    obtain ⟨v, hv, hr⟩ := h3 _ w' a hs fn hrs
    have env' := hs.env
    rw [h1] at env'
    exact ⟨hs.slots.defers, v, hv, v, av, h', rfl, h2, env'.pre, hr⟩
  refine wp_mono ((H O w).run _ w hst) fun e a w' ⟨s, hs, hq⟩ => ?_
  cases e with
  | normal => exact fin s a w' hs hq
  | ret => exact fin s a w' hs hq
  | _ => exact hq.elim

section
variable {P : Program} {C : Cx} {Q : Exit → AS → Prop} {f : Nat → AV} {h : List HObj} {ops : Array Oper} {o : Oper} {rest : List Oper}

/-- A call that makes blocks of the caller's own. -/
theorem sM0 {g : FuncId} {xs : Array Operand} {ts : Array TypeId} {avs : List AV} {R : AV → List HObj → Prop} {d : Nat} (hg : o.guard = none) (hd : o.dst = some d) (hN : Nat.blt d C.N = true) (ho : o.op = .call { callee := .value (.func g), args := xs, argTypes := ts }) (hp : MFn P C.w0.K g avs [] R) (hs : SubL (xs.toList.map (evalT f)) avs)
    (hR : ∀ av h', R av h' → ∃ p, h' = [p])
    (k : ∀ av p, R av [p] → WL none P C ops Q rest ⟨upd f d av, h ++ [p]⟩) : WL none P C ops Q (o :: rest) ⟨f, h⟩ := by
  refine ⟨fun a w hst => wpList_plain hg fun K hK => ?_⟩
  have env := hst.env
  have hr' : ∀ x ∈ xs.toList, Rep (owned C.X h) w (evalT f x) (a.eval x) := fun x _ => hst.slots.eval x
  have hrun : (execOp a.eval o).run P w = .ok (.enter g (xs.map a.eval)) w := by
    simp [execOp, ho, resolve, Act.eval, Deferred.ofValue, invoke, hp.enter]
  unfold Oper.wp
  rw [hrun]
  simp only [Oper.upon]
  have hl : (xs.map a.eval).size = avs.length := by rw [← hs.len]; simp
  have hR1 := args_repC (O := owned C.X h) (w := w) (a := a) hr' hs
  have e : (fun j => (xs.map a.eval)[j]?) = (fun j => (xs.toList.map a.eval)[j]?) := funext fun j => by rw [← Array.getElem?_toList, Array.toList_map]
  have hO : ∀ b, owned (owned C.X h) [] b ↔ owned C.X h b := fun b => ⟨fun hb => by rcases hb with hb | ⟨o, ho, _⟩; exact hb; simp at ho, .inl⟩
  have env0 : Env (owned C.X h) ⟨w, fun b => ∃ o ∈ ([] : List HObj), o.blk = some b, C.w0.K⟩ [] w := ⟨Chg.refl _ _ _, fun o ho => by simp at ho, fun o ho => by simp at ho, fun o ho => by simp at ho, fun b hb => ⟨owned_lt env hb, fun ⟨o, ho, _⟩ => by simp at ho⟩, fun i j o p b hi => by simp at hi⟩
  refine (hp.calls (owned C.X h) w (xs.map a.eval) env0 hl ?_).mono ?_
  · rw [e]; exact RepC.mono (Kept.refl _ _) (fun b _ hb => (hO b).1 hb) _ _ hR1
  · rintro e w' ⟨r, av, h', rfl, h2, env', h4⟩
    obtain ⟨p, rfl⟩ := hR av h' h2
    have hb : Bl C.w0.K w w' := ⟨⟨env'.below.os, env'.below.tape, env'.below.output, env'.below.size, fun k hk => env'.below.block k hk (fun ⟨o, ho, _⟩ => by simp at ho)⟩, env'.below.drawn⟩
    have hn : ∀ b, p.blk = some b → w.heap.size ≤ b ∧ b < w'.heap.size := fun b hb' => ⟨by
      rcases env'.new p (by simp) b hb' with h5 | ⟨o, ho, _⟩
      · exact h5
      · simp at ho, env'.lt p (by simp) b hb'⟩
    have hsub : ∀ b, owned C.X (h ++ [p]) b → owned (owned C.X h) [p] b := fun b hb' => by
      rcases hb' with hx | ⟨o, ho, hob⟩
      · exact .inl (.inl hx)
      · rcases List.mem_append.1 ho with ho | ho
        · exact .inl (.inr ⟨o, ho, hob⟩)
        · exact .inr ⟨o, ho, hob⟩
    have pok : p.ok (owned C.X (h ++ [p])) w' := HObj.ok_mono (env'.objs p (by simp)) (Kept.refl _ _) (fun b _ hb' => hsub b hb') fun _ _ => rfl
    refine hK _ _ ((k av p h2).run _ _ ⟨env.push hb pok hn, ?_⟩)
    have := (slots_push env hb hn hst.slots).put o.dst (Rep.mono (Kept.refl _ w') (fun b _ hb' => hsub b hb') _ _ h4)
    rw [hd, putT_upd hN] at this
    rw [hd]; exact this

/-- A call that is handed one of the caller's own blocks. -/
theorem sM1 {g : FuncId} {xs : Array Operand} {ts : Array TypeId} {avs : List AV} {ob : HObj} {R : AV → List HObj → Prop} (i : Nat) (hg : o.guard = none) (ho : o.op = .call { callee := .value (.func g), args := xs, argTypes := ts }) (hi : h[i]? = some ob) (hp : MFn P C.w0.K g avs [ob] R) (hs : SubL (xs.toList.map (evalT f)) avs)
    (hR : ∀ av h', R av h' → ∃ p, h' = [p])
    (k : ∀ av p, R av [p] → WL none P C ops Q rest ⟨putT C.N f o.dst av, h.set i p⟩) : WL none P C ops Q (o :: rest) ⟨f, h⟩ := by
  refine ⟨fun a w hst => wpList_plain hg fun K hK => ?_⟩
  have env := hst.env
  have hr' : ∀ x ∈ xs.toList, Rep (owned C.X h) w (evalT f x) (a.eval x) := fun x _ => hst.slots.eval x
  have hrun : (execOp a.eval o).run P w = .ok (.enter g (xs.map a.eval)) w := by
    simp [execOp, ho, resolve, Act.eval, Deferred.ofValue, invoke, hp.enter]
  unfold Oper.wp
  rw [hrun]
  simp only [Oper.upon]
  have hl : (xs.map a.eval).size = avs.length := by rw [← hs.len]; simp
  have hR1 := args_repC (O := owned C.X h) (w := w) (a := a) hr' hs
  have e : (fun j => (xs.map a.eval)[j]?) = (fun j => (xs.toList.map a.eval)[j]?) := funext fun j => by rw [← Array.getElem?_toList, Array.toList_map]
  have him : ob ∈ h := List.mem_of_getElem? hi
  have hil : i < h.length := (List.getElem?_eq_some_iff.1 hi).1
  -- what the callee takes for its callers' own
  let O' : Nat → Prop := owned C.X (h.set i .dead)
  have hO'X : ∀ b, O' b → owned C.X h b := fun b hb => by
    rcases hb with hx | ⟨o, ho, hob⟩
    · exact .inl hx
    · rcases List.mem_or_eq_of_mem_set ho with ho | rfl
      · exact .inr ⟨o, ho, hob⟩
      · cases hob
  have hO'ne : ∀ b, O' b → ob.blk ≠ some b := fun b hb hob => by
    rcases hb with hx | ⟨o, ho, hob'⟩
    · have h5 := env.ext b hx
      rcases env.new ob him b hob with h6 | h6
      · omega
      · exact h5.2 h6
    · obtain ⟨j, hj⟩ := List.mem_iff_getElem?.1 ho
      rw [List.getElem?_set] at hj
      simp only [hil, if_true] at hj
      split at hj
      · obtain rfl : HObj.dead = o := by simpa using hj
        cases hob'
      · rename_i hne
        exact hne (env.apart i j ob o b hi hj hob hob')
  have hsub1 : ∀ b, owned O' [ob] b → owned C.X h b := fun b hb => by
    rcases hb with hx | ⟨o, ho, hob⟩
    · exact hO'X b hx
    · obtain rfl : o = ob := by simpa using ho
      exact .inr ⟨o, him, hob⟩
  have env0 : Env O' ⟨w, fun b => ∃ o ∈ [ob], o.blk = some b, C.w0.K⟩ [ob] w := by
    refine ⟨Chg.refl _ _ _, fun o ho => ?_, fun o ho b hob => .inr ⟨o, ho, hob⟩, fun o ho b hob => ?_, fun b hb => ⟨owned_lt env (hO'X b hb), fun ⟨o, ho, hob⟩ => ?_⟩, fun i j o p b h1 h2 _ _ => ?_⟩
    · obtain rfl : o = ob := by simpa using ho
      exact HObj.ok_mono (env.objs o him) (Kept.refl _ _) (fun b _ hb => hsub1 b hb) fun _ _ => rfl
    · obtain rfl : o = ob := by simpa using ho
      exact env.lt o him b hob
    · obtain rfl : o = ob := by simpa using ho
      exact hO'ne b hb hob
    · have := (List.getElem?_eq_some_iff.1 h1).1
      have := (List.getElem?_eq_some_iff.1 h2).1
      simp at *; omega
  refine (hp.calls O' w (xs.map a.eval) env0 hl ?_).mono ?_
  · rw [e]; exact RepC.mono (Kept.refl _ _) (fun b _ hb => hsub1 b hb) _ _ hR1
  · rintro e w' ⟨r, av, h', rfl, h2, env', h4⟩
    obtain ⟨p, rfl⟩ := hR av h' h2
    have hgr : w.grownBy w' ob.blk := ⟨env'.below.os, env'.below.tape, env'.below.output, env'.below.size, fun k hk hne => env'.below.block k hk (fun ⟨o, ho, hob⟩ => by
      obtain rfl : o = ob := by simpa using ho
      exact hne hob.symm)⟩
    have hq : ∀ b, p.blk = some b → ob.blk = some b ∨ w.heap.size ≤ b := fun b hb => by
      rcases env'.new p (by simp) b hb with h5 | ⟨o, ho, hob⟩
      · exact .inr h5
      · obtain rfl : o = ob := by simpa using ho
        exact .inl hob
    have hsub2 : ∀ b, owned C.X (h.set i p) b → owned O' [p] b := fun b hb => by
      rcases hb with hx | ⟨o, ho, hob⟩
      · exact .inl (.inl hx)
      · obtain ⟨j, hj⟩ := List.mem_iff_getElem?.1 ho
        rw [List.getElem?_set] at hj
        simp only [hil, if_true] at hj
        split at hj
        · obtain rfl : p = o := by simpa using hj
          exact .inr ⟨p, by simp, hob⟩
        · rename_i hne
          refine .inl (.inr ⟨o, ?_, hob⟩)
          refine List.mem_iff_getElem?.2 ⟨j, ?_⟩
          rw [List.getElem?_set, if_neg hne]; exact hj
    have pok : p.ok (owned C.X (h.set i p)) w' := HObj.ok_mono (env'.objs p (by simp)) (Kept.refl _ _) (fun b _ hb' => hsub2 b hb') fun _ _ => rfl
    refine hK _ _ ((k av p h2).run _ _ ⟨env.set_ hi hgr env'.below.drawn pok hq (fun b hb => env'.lt p (by simp) b hb), ?_⟩)
    exact (slots_set env hi hgr hq hst.slots).put o.dst (Rep.mono (Kept.refl _ w') (fun b _ hb' => hsub2 b hb') _ _ h4)
end
end Go.Proofs.Ytmhkalalcmkpbaa
