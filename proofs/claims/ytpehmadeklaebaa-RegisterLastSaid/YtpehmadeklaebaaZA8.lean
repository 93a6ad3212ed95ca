/-
  A8
-/
import Derived.Test.YtpehmadeklaebaaZA7
namespace Go.Proofs.Ytpehmadeklaebaa
open Go Go.RowKit
set_option linter.unusedVariables false
set_option linter.unusedSimpArgs false

section
variable {X : Nat → Prop} {w0 : Orig} {w w' : World} {h : List HObj}

/-- One more block of the call's own. -/
theorem Env.push (env : Env X w0 h w) {p : HObj} (hb : Bl w0.K w w') (hp : p.ok (owned X (h ++ [p])) w') (hn : ∀ b, p.blk = some b → w.heap.size ≤ b ∧ b < w'.heap.size) : Env X w0 (h ++ [p]) w' := by
  have e1 := env.below_ hb
  have hO : ∀ b, b < w.heap.size → owned X (h ++ [p]) b → owned X h b := by
    rintro b hlt (hx | ⟨o, ho, hob⟩)
    · exact .inl hx
    · rcases List.mem_append.1 ho with ho | ho
      · exact .inr ⟨o, ho, hob⟩
      · obtain rfl : o = p := by simpa using ho
        have := (hn b hob).1; omega
  refine ⟨e1.below, fun o ho => ?_, fun o ho b hob => ?_, fun o ho b hob => ?_, env.ext, fun i j o q b hi hj ho hq => ?_⟩
  · rcases List.mem_append.1 ho with ho | ho
    · exact HObj.ok_mono (env.objs o ho) (Kept.of_below hb.b) hO fun b hbb => hb.b.block b (env.lt o ho b hbb)
    · obtain rfl : o = p := by simpa using ho
      exact hp
  · rcases List.mem_append.1 ho with ho | ho
    · exact env.new o ho b hob
    · obtain rfl : o = p := by simpa using ho
      exact .inl (Nat.le_trans env.below.size (hn b hob).1)
  · rcases List.mem_append.1 ho with ho | ho
    · exact e1.lt o ho b hob
    · obtain rfl : o = p := by simpa using ho
      exact (hn b hob).2
  · have key : ∀ (i : Nat) (o : HObj), (h ++ [p])[i]? = some o → h[i]? = some o ∨ (i = h.length ∧ o = p) := fun i o hi => by
      rw [List.getElem?_append] at hi
      split at hi
      · exact .inl hi
      · have : i - h.length = 0 := by
          rcases Nat.eq_zero_or_pos (i - h.length) with h0 | h0
          · exact h0
          · rw [List.getElem?_eq_none (by simp; omega)] at hi; cases hi
        rw [this] at hi
        exact .inr ⟨by omega, by simpa using hi.symm⟩
    rcases key i o hi with hi' | ⟨rfl, rfl⟩ <;> rcases key j q hj with hj' | ⟨rfl, rfl⟩
    · exact env.apart i j o q b hi' hj' ho hq
    · have := env.lt o (List.mem_of_getElem? hi') b ho
      have := (hn b hq).1; omega
    · have := env.lt q (List.mem_of_getElem? hj') b hq
      have := (hn b ho).1; omega
    · rfl
theorem slots_push {N : Nat} {f : Nat → AV} {a : Act} (env : Env X w0 h w) {p : HObj} (hb : Bl w0.K w w') (hn : ∀ b, p.blk = some b → w.heap.size ≤ b ∧ b < w'.heap.size) (hs : Slots N (owned X h) w f a) : Slots N (owned X (h ++ [p])) w' f a :=
  hs.mono (Kept.of_below hb.b) fun b hlt hO => by
    rcases hO with hx | ⟨o, ho, hob⟩
    · exact .inl hx
    · rcases List.mem_append.1 ho with ho | ho
      · exact .inr ⟨o, ho, hob⟩
      · obtain rfl : o = p := by simpa using ho
        have := (hn b hob).1; omega

/-- One of the call's own blocks changes, or gives way to a new one. -/
theorem owned_set {i : Nat} {p q : HObj} (hi : h[i]? = some p) (env : Env X w0 h w) (hq : ∀ b, q.blk = some b → p.blk = some b ∨ w.heap.size ≤ b) : ∀ b, b < w.heap.size → owned X (h.set i q) b → owned X h b := by
  rintro b hlt (hx | ⟨o, ho, hob⟩)
  · exact .inl hx
  · rcases List.mem_or_eq_of_mem_set ho with ho | rfl
    · exact .inr ⟨o, ho, hob⟩
    · rcases hq b hob with hp | hp
      · exact .inr ⟨p, List.mem_of_getElem? hi, hp⟩
      · omega
theorem Env.set_ (env : Env X w0 h w) {i : Nat} {p q : HObj} (hi : h[i]? = some p) (hg : w.grownBy w' p.blk) (hdr : w0.K → w.drawn ≤ w'.drawn) (hk : q.ok (owned X (h.set i q)) w')
    (hq : ∀ b, q.blk = some b → p.blk = some b ∨ w.heap.size ≤ b) (hl : ∀ b, q.blk = some b → b < w'.heap.size) : Env X w0 (h.set i q) w' := by
  have hpm : p ∈ h := List.mem_of_getElem? hi
  have hil : i < h.length := (List.getElem?_eq_some_iff.1 hi).1
  have keep : Kept (owned X h) w w' := ⟨hg.size, fun b hlt hO => hg.block b hlt fun e => hO (.inr ⟨p, hpm, e.symm⟩)⟩
  have hO := owned_set hi env hq
  refine ⟨?_, fun o ho => ?_, fun o ho b hob => ?_, fun o ho b hob => ?_, env.ext, fun j k o r b hj hk' ho hr => ?_⟩
  · refine ⟨hg.os.trans env.below.os, hg.tape.trans env.below.tape, hg.output.trans env.below.output, Nat.le_trans env.below.size hg.size, fun b hb hf => (hg.block b (Nat.lt_of_lt_of_le hb env.below.size) fun e => ?_).trans (env.below.block b hb hf), fun hk => Nat.le_trans (env.below.drawn hk) (hdr hk)⟩
    rcases env.new p hpm b e.symm with h5 | h5
    · omega
    · exact hf h5
  · obtain ⟨j, hj⟩ := List.mem_iff_getElem?.1 ho
    rw [List.getElem?_set] at hj
    simp only [hil, if_true] at hj
    split at hj
    · obtain rfl : q = o := by simpa using hj
      exact hk
    · rename_i hne
      refine HObj.ok_mono (env.objs o (List.mem_of_getElem? hj)) keep hO fun b hbb => hg.block b (env.lt o (List.mem_of_getElem? hj) b hbb) fun e => ?_
      exact hne (env.apart i j p o b hi hj e.symm hbb)
  · rcases List.mem_or_eq_of_mem_set ho with ho | rfl
    · exact env.new o ho b hob
    · rcases hq b hob with hp | hp
      · exact env.new p hpm b hp
      · exact .inl (Nat.le_trans env.below.size hp)
  · rcases List.mem_or_eq_of_mem_set ho with ho | rfl
    · exact Nat.lt_of_lt_of_le (env.lt o ho b hob) hg.size
    · exact hl b hob
  · rw [List.getElem?_set] at hj hk'
    simp only [hil, if_true] at hj hk'
    split at hj
    · rename_i e1
      obtain rfl : q = o := by simpa using hj
      split at hk'
      · omega
      · rename_i e2
        rcases hq b ho with hp | hp
        · have := env.apart i k p r b hi hk' hp hr; omega
        · have := env.lt r (List.mem_of_getElem? hk') b hr; omega
    · rename_i e1
      split at hk'
      · rename_i e2
        obtain rfl : q = r := by simpa using hk'
        rcases hq b hr with hp | hp
        · have := env.apart i j p o b hi hj hp ho; omega
        · have := env.lt o (List.mem_of_getElem? hj) b ho; omega
      · exact env.apart j k o r b hj hk' ho hr
theorem slots_set {N : Nat} {f : Nat → AV} {a : Act} {i : Nat} {p q : HObj} (env : Env X w0 h w) (hi : h[i]? = some p) (hg : w.grownBy w' p.blk) (hq : ∀ b, q.blk = some b → p.blk = some b ∨ w.heap.size ≤ b) (hs : Slots N (owned X h) w f a) : Slots N (owned X (h.set i q)) w' f a :=
  hs.mono ⟨hg.size, fun b hlt hO => hg.block b hlt fun e => hO (.inr ⟨p, List.mem_of_getElem? hi, e.symm⟩)⟩ (owned_set hi env hq)
end

section
variable {P : Program} {C : Cx} {Q : Exit → AS → Prop} {s : AS} {ops : Array Oper} {o : Oper} {rest : List Oper}

theorem below_alloc1 {K : Prop} (w : World) (o : Obj) : Bl K w (w.alloc o) := Bl.alloc K w o

/-- A new block that holds what a value means. -/
theorem st_new {T : TypeId} {us : Array Value} {cs : List AV} {a : Act} {w : World} (hs : C.St s a w) (hl : us.size = cs.length) (hr : RepC (owned C.X s.h) w cs (fun j => us[j]?)) (d : Option Nat) :
    C.St ⟨putT C.N s.t d (.x (.pointer (some ⟨w.heap.size, 0, none⟩))), s.h ++ [.cells w.heap.size T cs]⟩ (a.put d (.pointer (some ⟨w.heap.size, 0, none⟩))) (w.alloc (.cells us T)) := by
  have hn : ∀ b, (HObj.cells w.heap.size T cs).blk = some b → w.heap.size ≤ b ∧ b < (w.alloc (.cells us T)).heap.size := fun b hb => by
    obtain rfl : w.heap.size = b := by simpa [HObj.blk] using hb
    simp
  have hb := below_alloc1 (K := C.w0.K) w (.cells us T)
  refine ⟨hs.env.push hb ⟨us, heap_alloc_new w _, hl, ?_⟩ hn, (slots_push hs.env hb hn hs.slots).put d (rep_x.2 rfl)⟩
  refine RepC.mono (Kept.of_below hb.b) (fun b hlt hO => ?_) _ _ hr
  rcases hO with hx | ⟨o, ho, hob⟩
  · exact .inl hx
  · rcases List.mem_append.1 ho with ho | ho
    · exact .inr ⟨o, ho, hob⟩
    · obtain rfl : o = _ := by simpa using ho
      have := (hn b hob).1; omega

theorem awl_alloc {T : TypeId} {zs : List Value} (hg : o.guard = none) (ho : o.op = .alloc T) (hz : tyZero P T = some zs)
    (k : ∀ g, AWL P C ops Q rest ⟨putT C.N s.t o.dst (.x (.pointer (some ⟨g, 0, none⟩))), s.h ++ [.cells g T (zs.map .x)]⟩) : AWL P C ops Q (o :: rest) s := by
  intro a w hs
  refine wpList_plain hg fun K hK => ?_
  obtain ⟨z, hz1, hz2⟩ := tyZero_spec hz w
  have hrun : (execOp a.eval o).run P w = .ok (.value (.pointer (some ⟨w.heap.size, 0, none⟩))) (w.alloc (.cells z.cells T)) := by
    simp [execOp, ho, Instr.alloc, hz1, newVar, newRow]
  unfold Oper.wp
  rw [hrun]
  refine hK _ _ (k w.heap.size _ _ (st_new hs (by rw [← Array.length_toList, hz2]; simp) ?_ o.dst))
  have e : (fun j => z.cells[j]?) = (fun j => zs[j]?) := funext fun j => by rw [← hz2]; exact Array.getElem?_toList.symm
  rw [e]; exact zero_rep zs

theorem awl_box {T : TypeId} {x : Operand} (hg : o.guard = none) (ho : o.op = .box T x) (hf : (evalT s.t x).flat = true)
    (k : ∀ g, AWL P C ops Q rest ⟨putT C.N s.t o.dst (.x (.pointer (some ⟨g, 0, none⟩))), s.h ++ [.cells g T (evalT s.t x).cells]⟩) : AWL P C ops Q (o :: rest) s := by
  intro a w hs
  refine wpList_plain hg fun K hK => ?_
  obtain ⟨h1, h2⟩ := rep_cells (hs.slots.eval x) (AV.flat_or hf)
  have hrun : (execOp a.eval o).run P w = .ok (.value (.pointer (some ⟨w.heap.size, 0, none⟩))) (w.alloc (.cells (a.eval x).cells T)) := by
    simp [execOp, ho, Instr.box, newVar, newRow]
  unfold Oper.wp
  rw [hrun]
  refine hK _ _ (k w.heap.size _ _ (st_new hs (by simpa using h1) ?_ o.dst))
  have e : (fun j => (a.eval x).cells[j]?) = (fun j => (a.eval x).cells.toList[j]?) := funext fun j => Array.getElem?_toList.symm
  rw [e]; exact h2

def AV.ones : List AV → Bool
  | [] => true
  | c :: cs => c.one && AV.ones cs
theorem AV.ones_spec {O : Nat → Prop} {w : World} : ∀ {cs : List AV} {vs : List Value}, AV.ones cs = true → vs.length = cs.length → RepC O w cs (fun j => vs[j]?) → ∀ v ∈ vs, v.oneCell' = true
  | [], [], _, _, _, v, hv => by simp at hv
  | [], _ :: _, _, hl, _, _, _ => by simp at hl
  | c :: cs, [], _, hl, _, _, _ => by simp at hl
  | c :: cs, u :: vs, h1, hl, hr, v, hv => by
    simp only [AV.ones, Bool.and_eq_true] at h1
    simp only [RepC] at hr
    obtain ⟨⟨u', hu, hr1⟩, hr2⟩ := hr
    obtain rfl : u = u' := by simpa using hu
    rcases List.mem_cons.1 hv with rfl | hv
    · exact hr1.one h1.1
    · exact AV.ones_spec (vs := vs) h1.2 (by simpa using hl) hr2 v hv

/-- A store into a block of the call's own. -/
theorem awl_store {T : TypeId} {x y : Operand} {g off i : Nat} {T' : TypeId} {cs : List AV} {b : Bool} {k : Nat} (hg : o.guard = none) (ho : o.op = .store T x y) (hx : evalT s.t x = .x (.pointer (some ⟨g, off, none⟩))) (hi : s.h[i]? = some (.cells g T' cs)) (ht : tyOf P T = some (b, k))
    (hf : (evalT s.t y).flat = true) (h1 : AV.ones (evalT s.t y).cells = true) (hk : (evalT s.t y).cells.length = k) (hoff : off + k ≤ cs.length)
    (kk : AWL P C ops Q rest ⟨putT C.N s.t o.dst .any, s.h.set i (.cells g T' (spl cs off (evalT s.t y).cells))⟩) : AWL P C ops Q (o :: rest) s := by
  intro a w hs
  refine wpList_plain hg fun K hK => ?_
  have hxe := hs.slots.eval x
  rw [hx, rep_x] at hxe
  obtain ⟨hl, hr⟩ := rep_cells (hs.slots.eval y) (AV.flat_or hf)
  obtain ⟨us, hh, hus, hur⟩ := hs.env.objs _ (List.mem_of_getElem? hi)
  have hone := AV.ones_spec h1 hl hr
  have hst := run_storeCells_at (P := P) g off T' (a.eval y).cells.toList 0 us w hh (by omega) hone
  have hrun : (execOp a.eval o).run P w = .ok .skip (w.setRow g (spl us.toList off (a.eval y).cells.toList).toArray) := by
    have hsz : (a.eval y).cells.size = k := by rw [← Array.length_toList, hl, hk]
    have e2 : (storeCells ⟨g, off, none⟩ (a.eval y).cells.toList).run P w = .ok () (w.setRow g (spl us.toList off (a.eval y).cells.toList).toArray) := by
      rw [hst]; simp [spl]
    simp only [execOp, ho, hxe, Instr.storeAt, Instr.sureAddr, Sem.run_bind, Sem.run_pure, Result.andThen_ok, storeVar, run_sizeOf_ ht, hsz]
    simp [e2]
  unfold Oper.wp
  rw [hrun]
  refine hK _ _ (kk _ _ ?_)
  have hgw : w.grownBy (w.setRow g (spl us.toList off (a.eval y).cells.toList).toArray) (some g) := ⟨rfl, rfl, rfl, by simp, fun b hb hne => setRow_other w g b _ (by intro e; subst e; exact hne rfl)⟩
  have hq : ∀ b, (HObj.cells g T' (spl cs off (evalT s.t y).cells)).blk = some b → (HObj.cells g T' cs).blk = some b ∨ w.heap.size ≤ b := fun b hb => .inl hb
  have hO := owned_set hi hs.env hq
  have hkeep : Kept (owned C.X s.h) w (w.setRow g (spl us.toList off (a.eval y).cells.toList).toArray) := ⟨hgw.size, fun b hlt hO => hgw.block b hlt fun e => hO (.inr ⟨_, List.mem_of_getElem? hi, by rw [e]; rfl⟩)⟩
  refine ⟨hs.env.set_ hi hgw (fun _ => Nat.le_refl _) ⟨_, setRow_heap w g us _ T' _ hh, ?_, ?_⟩ hq (fun b hb => ?_), (slots_set hs.env hi hgw hq hs.slots).put o.dst undef_rep⟩
  · simp only [List.size_toArray]
    rw [spl_length (by simp at hl; simp; omega), spl_length (by omega)]
    simpa using hus
  · have e : (fun j => (spl us.toList off (a.eval y).cells.toList).toArray[j]?) = (fun j => (spl us.toList off (a.eval y).cells.toList)[j]?) := funext fun j => List.getElem?_toArray
    rw [e]
    have hu2 : RepC (owned C.X s.h) w cs (fun j => us.toList[j]?) := by
      have e2 : (fun j => us.toList[j]?) = (fun j => us[j]?) := funext fun j => Array.getElem?_toList
      rw [e2]; exact hur
    exact RepC.mono hkeep hO _ _ (RepC.spl_ (by omega) (by simpa using hus) hl hu2 hr)
  · obtain rfl : g = b := by simpa [HObj.blk] using hb
    have := (Array.getElem?_eq_some_iff.1 hh).1
    simpa using this
end
end Go.Proofs.Ytpehmadeklaebaa
