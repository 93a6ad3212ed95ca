/-
  C8 ReadD ReadF LfrB Del2 Del3
-/
import Derived.Test.YtmhkalalcmkpbaaZC7
import Derived.Test.YtmhkalalcmkpbaaZDel1
import Derived.Test.YtmhkalalcmkpbaaZDotSame
import Derived.Test.YtmhkalalcmkpbaaZDotSmall
import Derived.Test.YtmhkalalcmkpbaaZFlay
import Derived.Test.YtmhkalalcmkpbaaZFread
import Derived.Test.YtmhkalalcmkpbaaZLfoB
import Derived.Test.YtmhkalalcmkpbaaZReadArg
import Derived.Lib.SmallJoins
namespace Go.Proofs.Ytmhkalalcmkpbaa
open Go Go.RowKit
set_option linter.unusedVariables false
set_option linter.unusedSimpArgs false

/-- A call that turns own blocks hA into hB. -/
def MStep (P : Program) (C : Cx) (hA hB : List HObj) (f : Nat → AV) (o : Oper) (av : AV) : Prop :=
  ∀ (a : Act) (w : World), Env C.X C.w0 hA w → a.tmps.size = C.N → (∀ t ∈ opRds o, Rep (owned C.X hA) w (f t) (a.tmps.getD t undef)) →
    ∀ (next : Act → World → Prop) (Q : Exit → Act → World → Prop), (∀ v w', Env C.X C.w0 hB w' → Kept (owned C.X hA) w w' → Rep (owned C.X hB) w' av v → next (a.put o.dst v) w') → o.wp P a w next Q

section
variable {P : Program} {C : Cx} {Q : Exit → AS → Prop} {f : Nat → AV} {o : Oper}
theorem mstep_s {g : FuncId} {xs : Array Operand} {ts : Array TypeId} {avs : List AV} {h1 hs hs' : List HObj} {av : AV} {R : AV → List HObj → Prop} (ho : o.op = .call { callee := .value (.func g), args := xs, argTypes := ts }) (hp : MFn P C.w0.K g avs hs R) (hs0 : SubL (xs.toList.map (evalT f)) avs)
    (hR : ∀ a h, R a h → a = av ∧ h = hs') : MStep P C (h1 ++ hs) (h1 ++ hs') f o av := by
  intro a w env hsz hrd next Q hK
  have hr' : ∀ x ∈ xs.toList, Rep (owned C.X (h1 ++ hs)) w (evalT f x) (a.eval x) := fun x hx => by
    have hm : x ∈ o.op.operands.toList := by rw [ho]; simp [Op.operands, Call.operands]; exact .inr (by simpa using hx)
    cases x with
    | tmp t => exact hrd t (opRds_mem hm)
    | const v => simp only [evalT, Rep, Act.eval]
    | global g => simp only [evalT, Rep, Act.eval]
    | func g => simp only [evalT, Rep, Act.eval]
  have hrun : (execOp a.eval o).run P w = .ok (.enter g (xs.map a.eval)) w := by
    simp [execOp, ho, resolve, Act.eval, Deferred.ofValue, invoke, hp.enter]
  unfold Oper.wp
  rw [hrun]
  simp only [Oper.upon]
  have hl : (xs.map a.eval).size = avs.length := by rw [← hs0.len]; simp
  have hR1 := args_repC (O := owned C.X (h1 ++ hs)) (w := w) (a := a) hr' hs0
  have e : (fun j => (xs.map a.eval)[j]?) = (fun j => (xs.toList.map a.eval)[j]?) := funext fun j => by rw [← Array.getElem?_toList, Array.toList_map]
  have cross : ∀ (o p : HObj) b, o ∈ h1 → p ∈ hs → o.blk = some b → p.blk = some b → False := fun o p b h2 h3 h4 h5 => by
    have := List.pairwise_append.1 (pw_of.1 env.apart)
    exact this.2.2 o h2 p h3 b h4 h5
  have hXne : ∀ b, C.X b → ∀ o ∈ h1 ++ hs, o.blk ≠ some b := fun b hx o ho hob => by
    have h5 := env.ext b hx
    rcases env.new o ho b hob with h6 | h6
    · omega
    · exact h5.2 h6
  let O' : Nat → Prop := owned C.X h1
  have hsub1 : ∀ b, owned O' hs b → owned C.X (h1 ++ hs) b := fun b hb => by
    rcases hb with (hx | ⟨o, ho, hob⟩) | ⟨o, ho, hob⟩
    · exact .inl hx
    · exact .inr ⟨o, List.mem_append_left _ ho, hob⟩
    · exact .inr ⟨o, List.mem_append_right _ ho, hob⟩
  have pws := List.pairwise_append.1 (pw_of.1 env.apart)
  have env0 : Env O' ⟨w, fun b => ∃ o ∈ hs, o.blk = some b, C.w0.K⟩ hs w := by
    refine ⟨Chg.refl _ _ _, fun o ho => ?_, fun o ho b hob => .inr ⟨o, ho, hob⟩, fun o ho b hob => env.lt o (List.mem_append_right _ ho) b hob, fun b hb => ⟨owned_lt env (hsub1 b (.inl hb)), fun ⟨o, ho, hob⟩ => ?_⟩, pw_of.2 pws.2.1⟩
    · exact HObj.ok_mono (env.objs o (List.mem_append_right _ ho)) (Kept.refl _ _) (fun b _ hb => hsub1 b hb) fun _ _ => rfl
    · rcases hb with hx | ⟨p, hp, hpb⟩
      · exact hXne b hx o (List.mem_append_right _ ho) hob
      · exact cross p o b hp ho hpb hob
  refine (hp.calls O' w (xs.map a.eval) env0 hl ?_).mono ?_
  · rw [e]; exact RepC.mono (Kept.refl _ _) (fun b _ hb => hsub1 b hb) _ _ hR1
  · rintro e w' ⟨r, av', hs'', rfl, h2, env', h4⟩
    have hh := hR _ _ h2
    rw [hh.1, hh.2] at h4
    rw [hh.2] at env'
    clear h2 hh
    have hF : ∀ b, b < w.heap.size → ∀ p ∈ hs', p.blk = some b → ∃ o ∈ hs, o.blk = some b := fun b hb p hp hpb => by
      rcases env'.new p hp b hpb with h5 | h5
      · simp only at h5; omega
      · exact h5
    have hO : ∀ b, b < w.heap.size → owned C.X (h1 ++ hs') b → owned C.X (h1 ++ hs) b := fun b hb hx => by
      rcases hx with hx | ⟨p, hp, hpb⟩
      · exact .inl hx
      · rcases List.mem_append.1 hp with hp | hp
        · exact .inr ⟨p, List.mem_append_left _ hp, hpb⟩
        · obtain ⟨o, ho, hob⟩ := hF b hb p hp hpb
          exact .inr ⟨o, List.mem_append_right _ ho, hob⟩
    have hkeep : Kept (owned C.X (h1 ++ hs)) w w' := ⟨env'.below.size, fun b hb hne => env'.below.block b hb fun ⟨o, ho, hob⟩ => hne (.inr ⟨o, List.mem_append_right _ ho, hob⟩)⟩
    have hsub2 : ∀ b, owned C.X (h1 ++ hs') b → owned O' hs' b := fun b hb => by
      rcases hb with hx | ⟨o, ho, hob⟩
      · exact .inl (.inl hx)
      · rcases List.mem_append.1 ho with ho | ho
        · exact .inl (.inr ⟨o, ho, hob⟩)
        · exact .inr ⟨o, ho, hob⟩
    have env2 : Env C.X C.w0 (h1 ++ hs') w' := by
      refine ⟨?_, fun o ho => ?_, fun o ho b hob => ?_, fun o ho b hob => ?_, env.ext, pw_of.2 (List.pairwise_append.2 ⟨pws.1, pw_of.1 env'.apart, fun o ho p hp b hob hpb => ?_⟩)⟩
      · refine ⟨env'.below.os.trans env.below.os, env'.below.tape.trans env.below.tape, env'.below.output.trans env.below.output, Nat.le_trans env.below.size env'.below.size, fun b hb hf => (env'.below.block b (Nat.lt_of_lt_of_le hb env.below.size) fun ⟨o, ho, hob⟩ => ?_).trans (env.below.block b hb hf), fun hk => Nat.le_trans (env.below.drawn hk) (env'.below.drawn hk)⟩
        rcases env.new o (List.mem_append_right _ ho) b hob with h5 | h5
        · omega
        · exact hf h5
      · rcases List.mem_append.1 ho with ho | ho
        · refine HObj.ok_mono (env.objs o (List.mem_append_left _ ho)) hkeep hO fun b hob => env'.below.block b (env.lt o (List.mem_append_left _ ho) b hob) fun ⟨p, hp, hpb⟩ => cross o p b ho hp hob hpb
        · exact HObj.ok_mono (env'.objs o ho) (Kept.refl _ _) (fun b _ hb' => hsub2 b hb') fun _ _ => rfl
      · rcases List.mem_append.1 ho with ho | ho
        · exact env.new o (List.mem_append_left _ ho) b hob
        · rcases env'.new o ho b hob with h5 | ⟨p, hp, hpb⟩
          · exact .inl (Nat.le_trans env.below.size h5)
          · exact env.new p (List.mem_append_right _ hp) b hpb
      · rcases List.mem_append.1 ho with ho | ho
        · exact Nat.lt_of_lt_of_le (env.lt o (List.mem_append_left _ ho) b hob) env'.below.size
        · exact env'.lt o ho b hob
      · obtain ⟨q, hq, hqb⟩ := hF b (env.lt o (List.mem_append_left _ ho) b hob) p hp hpb
        exact cross o q b ho hq hob hqb
    exact hK _ w' env2 hkeep (Rep.mono (Kept.refl _ w') (fun b _ hb' => hsub2 b hb') _ _ h4)
end


theorem owned_map {X : Nat → Prop} {h h' : List HObj} (e : h.map HObj.blk = h'.map HObj.blk) : owned X h = owned X h' := by
  funext b
  refine propext ?_
  have key : ∀ {l : List HObj}, (∃ o ∈ l, o.blk = some b) ↔ some b ∈ l.map HObj.blk := by
    intro l; rw [List.mem_map]
  unfold owned
  rw [key, key, e]
theorem owned_permE {X : Nat → Prop} {h h' : List HObj} (e : h.Perm h') : owned X h = owned X h' := by
  funext b
  refine propext ?_
  unfold owned
  constructor
  · rintro (g | ⟨o, ho, hb⟩)
    · exact .inl g
    · exact .inr ⟨o, e.mem_iff.1 ho, hb⟩
  · rintro (g | ⟨o, ho, hb⟩)
    · exact .inl g
    · exact .inr ⟨o, e.mem_iff.2 ho, hb⟩
theorem mstep_perm {P : Program} {C : Cx} {f : Nat → AV} {o : Oper} {hA hB hA' hB' : List HObj} {av : AV} (ea : hA.Perm hA') (eb : hB.Perm hB') (h : MStep P C hA hB f o av) : MStep P C hA' hB' f o av := by
  intro a w env hsz hrd next Q hK
  have oa : owned C.X hA' = owned C.X hA := (owned_permE ea).symm
  have ob : owned C.X hB' = owned C.X hB := (owned_permE eb).symm
  rw [oa] at hrd
  refine h a w (env.perm ea.symm) hsz hrd next Q fun v w' e' hk hr => hK v w' (e'.perm eb) ?_ ?_
  · rw [oa]; exact hk
  · rw [ob]; exact hr
theorem mstep_mid {P : Program} {C : Cx} {f : Nat → AV} {o : Oper} {g : FuncId} {xs : Array Operand} {ts : Array TypeId} {avs : List AV} {ob ob' : HObj} {av : AV} {R : AV → List HObj → Prop} (h1 h2 : List HObj) (ho : o.op = .call { callee := .value (.func g), args := xs, argTypes := ts }) (hp : MFn P C.w0.K g avs [ob] R) (hs0 : SubL (xs.toList.map (evalT f)) avs)
    (hR : ∀ a h, R a h → a = av ∧ h = [ob']) : MStep P C (h1 ++ ob :: h2) (h1 ++ ob' :: h2) f o av := by
  have pm : ∀ x : HObj, ((h1 ++ h2) ++ [x]).Perm (h1 ++ x :: h2) := fun x => by
    rw [List.append_assoc]
    exact List.Perm.append_left _ (List.perm_append_comm (l₁ := h2) (l₂ := [x]))
  exact mstep_perm (pm ob) (pm ob') (mstep_s ho hp hs0 hR)

/-- The first n operations wait for what they read; those behind them wait for all before. -/
def drawOkB (ops : Array Oper) (n N : Nat) : Bool :=
  let l := ops.toList.zipIdx
  Nat.ble n ops.size &&
  l.all (fun p => p.1.after.all fun e => Nat.blt e.on p.2 || !(Region.binds .any e)) &&
  l.all (fun p => if Nat.blt p.2 n then
      (match p.1.dst with | some d => Nat.blt d N && l.all (fun q => Nat.beq q.2 p.2 || !(Nat.blt q.2 n) || !(match q.1.dst with | some d' => Nat.beq d' d | none => false)) | none => true) &&
      ((opRds p.1 ++ (match p.1.guard with | some (g, _) => ((ops[g]?).bind (·.dst)).toList | none => [])).all fun t =>
        l.all fun q => !(Nat.blt q.2 n) || !(match q.1.dst with | some d => Nat.beq d t | none => false) || (Nat.blt q.2 p.2 && memE p.1.after q.2))
    else (List.range p.2).all fun q => memE p.1.after q)

structure DrawOkB (ops : Array Oper) (n N : Nat) : Prop where
  le : n ≤ ops.size
  down : ∀ (i : Nat) (o : Oper), ops[i]? = some o → ∀ e ∈ o.after, Region.binds .any e = true → e.on < i
  lt : ∀ (i : Nat) (o : Oper) d, i < n → ops[i]? = some o → o.dst = some d → d < N
  uniq : ∀ (i j : Nat) (o p : Oper) d, i < n → j < n → ops[i]? = some o → ops[j]? = some p → o.dst = some d → p.dst = some d → i = j
  reads : ∀ (i j : Nat) (o p : Oper) t, i < n → j < n → ops[i]? = some o → ops[j]? = some p → p.dst = some t → (t ∈ opRds o ∨ ∃ g b, o.guard = some (g, b) ∧ (ops[g]?).bind (·.dst) = some t) → j < i ∧ ∃ e ∈ o.after, e.on = j ∧ Region.binds .any e = true
  tail : ∀ (i j : Nat) (o : Oper), n ≤ i → j < i → ops[i]? = some o → ∃ e ∈ o.after, e.on = j ∧ Region.binds .any e = true

theorem drawOkB_spec {ops : Array Oper} {n N : Nat} (h : drawOkB ops n N = true) : DrawOkB ops n N := by
  simp only [drawOkB, Bool.and_eq_true, List.all_eq_true] at h
  obtain ⟨⟨h1, h2⟩, h3⟩ := h
  have mem : ∀ (i : Nat) (o : Oper), ops[i]? = some o → (o, i) ∈ ops.toList.zipIdx := fun i o ho => by
    rw [List.mem_zipIdx_iff_getElem?]
    simpa using ho
  have blt : ∀ {a b : Nat}, Nat.blt a b = true ↔ a < b := fun {a b} => by simp [Nat.blt_eq]
  have beq : ∀ {a b : Nat}, Nat.beq a b = true ↔ a = b := fun {a b} => ⟨Nat.eq_of_beq_eq_true, fun e => by subst e; simp⟩
  refine ⟨Nat.le_of_ble_eq_true h1, ?_, ?_, ?_, ?_, ?_⟩
  · intro i o ho e he hbd
    have := h2 (o, i) (mem i o ho)
    rw [Array.all_eq_true'] at this
    have := this e he
    rw [hbd] at this
    exact blt.1 (by simpa using this)
  · intro i o d hi ho hd
    have := h3 (o, i) (mem i o ho)
    simp only [blt.2 hi, if_true, hd, Bool.and_eq_true] at this
    exact blt.1 this.1.1
  · intro i j o p d hi hj ho hp hd hd'
    have := h3 (o, i) (mem i o ho)
    simp only [blt.2 hi, if_true, hd, Bool.and_eq_true, List.all_eq_true] at this
    have := this.1.2 (p, j) (mem j p hp)
    simp only [blt.2 hj, hd', beq.2 rfl, Bool.not_true, Bool.or_false, Bool.or_eq_true] at this
    exact (beq.1 this).symm
  · intro i j o p t hi hj ho hp hd hr
    have := h3 (o, i) (mem i o ho)
    simp only [blt.2 hi, if_true, Bool.and_eq_true, List.all_eq_true] at this
    have := this.2 t (by
      rw [List.mem_append]
      rcases hr with hr | ⟨g, b, hg, hgd⟩
      · exact .inl hr
      · refine .inr ?_
        simp only [hg, hgd, Option.toList, List.mem_singleton]) (p, j) (mem j p hp)
    simp only [blt.2 hj, hd, beq.2 rfl, Bool.not_true, Bool.false_or, Bool.and_eq_true] at this
    exact ⟨blt.1 this.1, memE_spec this.2⟩
  · intro i j o hi hj ho
    have := h3 (o, i) (mem i o ho)
    have hb : Nat.blt i n = false := by
      cases hh : Nat.blt i n with
      | false => rfl
      | true => exact absurd (blt.1 hh) (by omega)
    simp only [hb, Bool.false_eq_true, if_false, List.all_eq_true] at this
    exact memE_spec (this j (List.mem_range.2 hj))

theorem all_listedB {ops : Array Oper} {listed : Array Bool} (hw : ∀ (i : Nat) (o : Oper), ops[i]? = some o → ∀ e ∈ o.after, Region.binds .any e = true → e.on < i) (hs : listed.size = ops.size)
    (hr : Region.ready .any ops listed = []) : ∀ i, i < ops.size → listed.getD i false = true := by
  intro i
  induction i using Nat.strongRecOn with
  | _ i ih =>
    intro hi
    cases hl : listed.getD i false with
    | true => rfl
    | false =>
      exfalso
      have hlt : i < listed.size := by omega
      have h0 : listed.getD i true = false := by simpa [hlt] using hl
      have hm : i ∈ Region.ready .any ops listed := mem_ready.2 ⟨h0, ops[i], Array.getElem?_eq_getElem hi, fun e he hb => by
        have := hw i ops[i] (Array.getElem?_eq_getElem hi) e he hb
        exact ih e.on this (by omega)⟩
      rw [hr] at hm
      cases hm

section
variable {P : Program} {C : Cx} {f : Nat → AV} {o : Oper} {h : List HObj}
theorem mstep_store {T : TypeId} {x y : Operand} {g off : Nat} (i : Nat) {T' : TypeId} {cs : List AV} {b : Bool} {k : Nat} (ho : o.op = .store T x y) (hx : evalT f x = .x (.pointer (some ⟨g, off, none⟩))) (hi : h[i]? = some (.cells g T' cs)) (ht : tyOf P T = some (b, k))
    (hf : (evalT f y).flat = true) (h1 : AV.ones (evalT f y).cells = true) (hk : (evalT f y).cells.length = k) (hoff : off + k ≤ cs.length) : MStep P C h (h.set i (.cells g T' (spl cs off (evalT f y).cells))) f o .any := by
  intro a w env hsz hrd next Q hK
  have ev : ∀ x, x ∈ o.op.operands.toList → Rep (owned C.X h) w (evalT f x) (a.eval x) := fun x hm => by
    cases x with
    | tmp t => exact hrd t (opRds_mem hm)
    | const v => simp only [evalT, Rep, Act.eval]
    | global g => simp only [evalT, Rep, Act.eval]
    | func g => simp only [evalT, Rep, Act.eval]
  have hxe := ev x (by rw [ho]; simp [Op.operands])
  rw [hx, rep_x] at hxe
  obtain ⟨hl, hr⟩ := rep_cells (ev y (by rw [ho]; simp [Op.operands])) (AV.flat_or hf)
  obtain ⟨us, hh, hus, hur⟩ := env.objs _ (List.mem_of_getElem? hi)
  have hone := AV.ones_spec h1 hl hr
  have hst := run_storeCells_at (P := P) g off T' (a.eval y).cells.toList 0 us w hh (by omega) hone
  have hrun : (execOp a.eval o).run P w = .ok .skip (w.setRow g (spl us.toList off (a.eval y).cells.toList).toArray) := by
    have hsz : (a.eval y).cells.size = k := by rw [← Array.length_toList, hl, hk]
    have e2 : (storeCells ⟨g, off, none⟩ (a.eval y).cells.toList).run P w = .ok () (w.setRow g (spl us.toList off (a.eval y).cells.toList).toArray) := by
      rw [hst]; simp [spl]
    simp only [execOp, ho, hxe, Instr.storeAt, Instr.sureAddr, Sem.run_bind, Sem.run_pure, Result.andThen_ok, storeVar, run_sizeOf_ ht, hsz]
    simp [e2]
  unfold Oper.wp
  rw [hrun]
  have hgw : w.grownBy (w.setRow g (spl us.toList off (a.eval y).cells.toList).toArray) (some g) := ⟨rfl, rfl, rfl, by simp, fun b hb hne => setRow_other w g b _ (by intro e; subst e; exact hne rfl)⟩
  have hq : ∀ b, (HObj.cells g T' (spl cs off (evalT f y).cells)).blk = some b → (HObj.cells g T' cs).blk = some b ∨ w.heap.size ≤ b := fun b hb => .inl hb
  have hO := owned_set hi env hq
  have hkeep : Kept (owned C.X h) w (w.setRow g (spl us.toList off (a.eval y).cells.toList).toArray) := ⟨hgw.size, fun b hlt hO => hgw.block b hlt fun e => hO (.inr ⟨_, List.mem_of_getElem? hi, by rw [e]; rfl⟩)⟩
  refine hK undef _ (env.set_ hi hgw (fun _ => Nat.le_refl _) ⟨_, setRow_heap w g us _ T' _ hh, ?_, ?_⟩ hq (fun b hb => ?_)) hkeep undef_rep
  · simp only [List.size_toArray]
    rw [spl_length (by simp at hl; simp; omega), spl_length (by omega)]
    simpa using hus
  · have e : (fun j => (spl us.toList off (a.eval y).cells.toList).toArray[j]?) = (fun j => (spl us.toList off (a.eval y).cells.toList)[j]?) := funext fun j => List.getElem?_toArray
    rw [e]
    have hu2 : RepC (owned C.X h) w cs (fun j => us.toList[j]?) := by
      have e2 : (fun j => us.toList[j]?) = (fun j => us[j]?) := funext fun j => Array.getElem?_toList
      rw [e2]; exact hur
    exact RepC.mono hkeep hO _ _ (RepC.spl_ (by omega) (by simpa using hus) hl hu2 hr)
  · obtain rfl : g = b := by simpa [HObj.blk] using hb
    have := (Array.getElem?_eq_some_iff.1 hh).1
    simpa using this
theorem mstep_storeE {T : TypeId} {x y : Operand} {g off : Nat} {h' : List HObj} (i : Nat) {T' : TypeId} {cs : List AV} {b : Bool} {k : Nat} (ho : o.op = .store T x y) (hx : evalT f x = .x (.pointer (some ⟨g, off, none⟩))) (hi : h[i]? = some (.cells g T' cs)) (ht : tyOf P T = some (b, k))
    (hf : (evalT f y).flat = true) (h1 : AV.ones (evalT f y).cells = true) (hk : (evalT f y).cells.length = k) (hoff : off + k ≤ cs.length) (hE : h.set i (.cells g T' (spl cs off (evalT f y).cells)) = h') : MStep P C h h' f o .any := hE ▸ mstep_store i ho hx hi ht hf h1 hk hoff
end

abbrev IA := Option (Nat × TypeId × List Value)
def msOk (ops : Array Oper) (n : Nat) (ms : List Nat) : Bool :=
  ms.all (fun i => Nat.blt i n) && decide (ms.Pairwise (· < ·)) && (ms.zip ms.tail).all fun p => match ops[p.2]? with | some o => memE o.after p.1 | none => false
def iaOk (ops : Array Oper) (n : Nat) : IA → Bool
  | none => true
  | some p => Nat.blt p.1 n && ((ops[p.1]?).bind (·.dst)).isSome
def iaIs (ia : IA) (i : Nat) : Bool := match ia with | some p => Nat.beq p.1 i | none => false

def ChainM (P : Program) (C : Cx) (H : Nat → List HObj) (ia : IA) (ops : Array Oper) (ms : List Nat) : Nat → List Oper → (Nat → AV) → ((Nat → AV) → Prop) → Prop
  | _, [], f, G => G f
  | i, o :: rest, f, G => ∃ av, ((i ∉ ms ∧ iaIs ia i = false ∧ ∀ k, k ≤ ms.length → ∀ al, PureG P C.w0.K C.N C.X (H k ++ al) ops f o av) ∨
      (iaIs ia i = false ∧ ∃ m, ms[m]? = some i ∧ o.guard = none ∧ ∀ al, MStep P C (H m ++ al) (H (m + 1) ++ al) f o av) ∨
      (i ∉ ms ∧ o.guard = none ∧ av = .any ∧ ∃ T zs, ia = some (i, T, zs) ∧ o.op = .alloc T ∧ tyZero P T = some zs)) ∧ ChainM P C H ia ops ms (i + 1) rest (putT C.N f o.dst av) G
theorem ChainM.steps {P : Program} {C : Cx} {H : Nat → List HObj} {ia : IA} {ops : Array Oper} {ms : List Nat} {G : (Nat → AV) → Prop} : ∀ {l : List Oper} {i0 : Nat} {f : Nat → AV}, ChainM P C H ia ops ms i0 l f G → ∃ (fs : Nat → Nat → AV) (vs : Nat → AV), fs 0 = f ∧ G (fs l.length) ∧
    ∀ (i : Nat) (o : Oper), l[i]? = some o → ((i0 + i ∉ ms ∧ iaIs ia (i0 + i) = false ∧ ∀ k, k ≤ ms.length → ∀ al, PureG P C.w0.K C.N C.X (H k ++ al) ops (fs i) o (vs i)) ∨
      (iaIs ia (i0 + i) = false ∧ ∃ m, ms[m]? = some (i0 + i) ∧ o.guard = none ∧ ∀ al, MStep P C (H m ++ al) (H (m + 1) ++ al) (fs i) o (vs i)) ∨
      (i0 + i ∉ ms ∧ o.guard = none ∧ vs i = .any ∧ ∃ T zs, ia = some (i0 + i, T, zs) ∧ o.op = .alloc T ∧ tyZero P T = some zs)) ∧ fs (i + 1) = putT C.N (fs i) o.dst (vs i)
  | [], i0, f, k => ⟨fun _ => f, fun _ => .any, rfl, k, fun i o hi => by simp at hi⟩
  | o :: rest, i0, f, ⟨av, hp, k⟩ => by
    obtain ⟨fs, vs, h0, hk, hs⟩ := ChainM.steps k
    refine ⟨fun i => match i with | 0 => f | i + 1 => fs i, fun i => match i with | 0 => av | i + 1 => vs i, rfl, hk, fun i p hi => ?_⟩
    cases i with
    | zero =>
      obtain rfl : o = p := by simpa using hi
      exact ⟨hp, h0⟩
    | succ i =>
      have := hs i p (by simpa using hi)
      rw [show i0 + 1 + i = i0 + (i + 1) by omega] at this
      exact this
theorem ChainM.imp {P : Program} {C : Cx} {H : Nat → List HObj} {ia : IA} {ops : Array Oper} {ms : List Nat} {G G' : (Nat → AV) → Prop} (hk : ∀ f, G f → G' f) : ∀ {l : List Oper} {i : Nat} {f : Nat → AV}, ChainM P C H ia ops ms i l f G → ChainM P C H ia ops ms i l f G'
  | [], _, _, k => hk _ k
  | _ :: _, _, _, ⟨av, hp, k⟩ => ⟨av, hp, ChainM.imp hk k⟩
def FinM (P : Program) (C : Cx) (ops : Array Oper) (Q : Exit → AS → Prop) (tail : List Oper) (hM : List HObj) (ia : IA) (f : Nat → AV) : Prop :=
  match ia with
  | none => AWL P C ops Q tail ⟨f, hM⟩
  | some (i, T, zs) => ∀ g d, (ops[i]?).bind (·.dst) = some d → AWL P C ops Q tail ⟨upd f d (.x (.pointer (some ⟨g, 0, none⟩))), hM ++ [.cells g T (zs.map .x)]⟩
/-- What was made in the middle of it. -/
def AL (ia : IA) (ops : Array Oper) (listed : Array Bool) (a : Act) (al : List HObj) : Prop :=
  match ia with
  | none => al = []
  | some (i, T, zs) => (listed.getD i false = false ∧ al = []) ∨ (listed.getD i false = true ∧ ∃ g, al = [.cells g T (zs.map .x)] ∧ ∀ d, (ops[i]?).bind (·.dst) = some d → a.tmps.getD d undef = .pointer (some ⟨g, 0, none⟩))

section
variable {P : Program} {C : Cx} {Q : Exit → AS → Prop} {s : AS}

theorem aw_drawM {id : Nat} {ops : Array Oper} (hm : P.follows .mixedOrders = true) (n : Nat) (hok : drawOkB ops n C.N = true) (H : Nat → List HObj) (ia : IA) (ms : List Nat) (hms : msOk ops n ms = true) (hia : iaOk ops n ia = true) (hH0 : H 0 = s.h)
    (hOm : ∀ m, m ≤ ms.length → (H m).map HObj.blk = (H 0).map HObj.blk)
    (hc : ChainM P C H ia ops ms 0 (ops.toList.take n) s.t (FinM P C ops Q (ops.toList.drop n) (H ms.length) ia)) : AW P C (.region id ops true) Q s := by
  obtain ⟨st, sh⟩ := s
  simp only at hH0 hc
  subst hH0
  have hO : ∀ m, m ≤ ms.length → ∀ al, owned C.X (H m ++ al) = owned C.X (H 0 ++ al) := fun m hm al => owned_map (by rw [List.map_append, List.map_append, hOm m hm])
  have hms2 : (∀ i ∈ ms, i < n) ∧ ms.Pairwise (· < ·) ∧ ∀ k i j, ms[k]? = some i → ms[k + 1]? = some j → ∀ o, ops[j]? = some o → memE o.after i = true := by
    simp only [msOk, Bool.and_eq_true, List.all_eq_true, decide_eq_true_eq] at hms
    refine ⟨fun i hi => by simpa [Nat.blt_eq] using hms.1.1 i hi, hms.1.2, fun k i j hk hj o ho => ?_⟩
    have := hms.2 (i, j) (List.mem_of_getElem? (i := k) (by rw [List.getElem?_zip_eq_some]; exact ⟨hk, by rw [List.getElem?_tail]; exact hj⟩))
    simp only at this
    rw [ho] at this; exact this
  have iaLt : ∀ i T zs, ia = some (i, T, zs) → i < n ∧ ∃ d, (ops[i]?).bind (·.dst) = some d := fun i T zs h => by
    subst h
    simp only [iaOk, Bool.and_eq_true, Nat.blt_eq] at hia
    exact ⟨hia.1, Option.isSome_iff_exists.1 hia.2⟩
  have msLt : ∀ (k i : Nat), ms[k]? = some i → i < n := fun k i h => hms2.1 i (List.mem_of_getElem? h)
  have msInj : ∀ (k k' i : Nat), ms[k]? = some i → ms[k']? = some i → k = k' := fun k k' i h h' => by
    obtain ⟨h1, e1⟩ := List.getElem?_eq_some_iff.1 h
    obtain ⟨h2, e2⟩ := List.getElem?_eq_some_iff.1 h'
    rcases Nat.lt_trichotomy k k' with g | g | g
    · have := List.pairwise_iff_getElem.1 hms2.2.1 k k' h1 h2 g; omega
    · exact g
    · have := List.pairwise_iff_getElem.1 hms2.2.1 k' k h2 h1 g; omega
  intro a0 w00 hs0
  have ok := drawOkB_spec hok
  clear hok
  obtain ⟨fs, vs, hf0, hK, hstep0⟩ := hc.steps
  have hstep := fun i o h => by have := hstep0 i o h; rw [Nat.zero_add] at this; exact this
  clear hstep0
  have hlen : (ops.toList.take n).length = n := by rw [List.length_take, Array.length_toList]; exact Nat.min_eq_left ok.le
  rw [hlen] at hK
  have hget : ∀ i, i < n → ∀ (o : Oper), ops[i]? = some o → (ops.toList.take n)[i]? = some o := fun i hi o ho => by
    rw [List.getElem?_take, if_pos hi]; simpa using ho
  -- what the chain's frames hold
  have keep : ∀ t, (∀ (j : Nat) (p : Oper), j < n → ops[j]? = some p → p.dst ≠ some t) → ∀ i, i ≤ n → fs i t = st t := by
    intro t ht i
    induction i with
    | zero => intro _; rw [hf0]
    | succ i ih =>
      intro hi
      have hlt : i < ops.size := Nat.lt_of_lt_of_le (by omega) ok.le
      have ho : ops[i]? = some ops[i] := Array.getElem?_eq_getElem hlt
      rw [(hstep i _ (hget i (by omega) _ ho)).2]
      have hne := ht i _ (by omega) ho
      cases hd : ops[i].dst with
      | none => exact ih (by omega)
      | some d =>
        rw [hd] at hne
        have hne : t ≠ d := fun e => hne (by rw [e])
        show (bif Nat.blt d C.N then upd (fs i) d (vs i) else fs i) t = _
        cases Nat.blt d C.N with
        | true => simp only [cond_true]; rw [upd_ne _ _ hne]; exact ih (by omega)
        | false => exact ih (by omega)
  have holds : ∀ (j : Nat) (p : Oper) t, j < n → ops[j]? = some p → p.dst = some t → ∀ i, j < i → i ≤ n → fs i t = vs j := by
    intro j p t hj hp hd i
    induction i with
    | zero => intro h; omega
    | succ i ih =>
      intro h1 h2
      have hlt : i < ops.size := Nat.lt_of_lt_of_le (by omega) ok.le
      have ho : ops[i]? = some ops[i] := Array.getElem?_eq_getElem hlt
      rw [(hstep i _ (hget i (by omega) _ ho)).2]
      by_cases hij : i = j
      · subst hij
        rw [hp] at ho
        obtain rfl : p = ops[i] := by injection ho
        have hb : Nat.blt t C.N = true := by simpa [Nat.blt_eq] using ok.lt i _ t hj hp hd
        rw [hd]
        show (bif Nat.blt t C.N then upd (fs i) t (vs i) else fs i) t = _
        rw [hb]; simp only [cond_true]; rw [upd_same]
      · have := ih (by omega) (by omega)
        cases hd' : ops[i].dst with
        | none => exact this
        | some d =>
          have hne : t ≠ d := fun e => hij (ok.uniq i j _ _ d (by omega) hj ho hp hd' (by rw [hd, e]))
          show (bif Nat.blt d C.N then upd (fs i) d (vs i) else fs i) t = _
          cases Nat.blt d C.N with
          | true => simp only [cond_true]; rw [upd_ne _ _ hne]; exact this
          | false => exact this
  -- the invariant
  let w1 : World := { w00 with drawn := w00.drawn + 1 }
  have hbw : Bl C.w0.K w00 w1 := ⟨⟨rfl, rfl, rfl, Nat.le_refl _, fun _ _ => rfl⟩, fun _ => Nat.le_succ _⟩
  have hs1 : C.St ⟨st, H 0⟩ a0 w1 := hs0.below_ hbw
  let A : Array Bool → Act → World → Prop := fun listed a w =>
    listed.size = ops.size ∧ ∃ m al, m ≤ ms.length ∧ (∀ k i, ms[k]? = some i → (listed.getD i false = true ↔ k < m)) ∧ AL ia ops listed a al ∧ Env C.X C.w0 (H m ++ al) w ∧ a.defers = [] ∧ a.tmps.size = C.N ∧
    (∀ t, (∀ (j : Nat) (p : Oper), j < n → ops[j]? = some p → p.dst ≠ some t) → Rep (owned C.X (H 0 ++ al)) w (st t) (a.tmps.getD t undef)) ∧
    (∀ (j : Nat) (p : Oper) t, j < n → ops[j]? = some p → p.dst = some t → listed.getD j false = true → Rep (owned C.X (H 0 ++ al)) w (vs j) (a.tmps.getD t undef)) ∧
    ∀ j, n ≤ j → listed.getD j false = false
  let B : Array Bool → Act → World → Prop := fun listed a w =>
    listed.size = ops.size ∧ ∃ k, n ≤ k ∧ k ≤ ops.size ∧ (∀ j, j < k → listed.getD j false = true) ∧ (∀ j, k ≤ j → listed.getD j false = false) ∧ wpList P ops (up C Q) (ops.toList.drop k) a w
  -- all of the first ones have come up
  have full : ∀ listed a w, A listed a w → (∀ j, j < n → listed.getD j false = true) → wpList P ops (up C Q) (ops.toList.drop n) a w := by
    intro listed a w ⟨h1, m, al, hm1, hm2, hal, henv, h3, h4, h5, h6, h7⟩ hall
    have hml : m = ms.length := by
      rcases Nat.lt_or_ge m ms.length with g | g
      · have := (hm2 m ms[m] (List.getElem?_eq_getElem g)).1 (hall _ (hms2.1 _ (List.getElem_mem g)))
        omega
      · omega
    subst hml
    have slots : ∀ t, Rep (owned C.X (H ms.length ++ al)) w (fs n t) (a.tmps.getD t undef) := fun t => by
      rw [hO _ (Nat.le_refl _)]
      by_cases ht : ∃ (j : Nat) (p : Oper), j < n ∧ ops[j]? = some p ∧ p.dst = some t
      · obtain ⟨j, p, hj, hp, hd⟩ := ht
        rw [holds j p t hj hp hd n hj (Nat.le_refl _)]
        exact h6 j p t hj hp hd (hall j hj)
      · have ht' : ∀ (j : Nat) (p : Oper), j < n → ops[j]? = some p → p.dst ≠ some t := fun j p hj hp hd => ht ⟨j, p, hj, hp, hd⟩
        rw [keep t ht' n (Nat.le_refl _)]
        exact h5 t ht'
    cases ia with
    | none =>
      obtain rfl : al = [] := hal
      rw [List.append_nil] at henv slots
      exact hK a w ⟨henv, h3, h4, slots⟩
    | some p =>
      obtain ⟨i, T, zs⟩ := p
      obtain ⟨hin, d, hd⟩ := iaLt i T zs rfl
      rcases hal with ⟨hl, _⟩ | ⟨hl, g, rfl, hp⟩
      · rw [hall i hin] at hl; cases hl
      · refine hK g d hd a w ⟨henv, h3, h4, fun t => ?_⟩
        by_cases htd : t = d
        · subst htd
          show Rep _ _ (upd (fs n) t _ t) _
          rw [upd_same, rep_x]
          exact hp t hd
        · show Rep _ _ (upd (fs n) d _ t) _
          rw [upd_ne _ _ htd]
          exact slots t
  have stepB : ∀ listed a w i, B listed a w → i ∈ Region.ready .any ops listed → wpOp P ops (up C Q) i (fun a w => A (listed.setIfInBounds i true) a w ∨ B (listed.setIfInBounds i true) a w) a w := by
    intro listed a w i ⟨hsz, k, h1, h2, h3, h4, h5⟩ hi
    obtain ⟨h0, o, ho, hall⟩ := mem_ready.1 hi
    have hlt : i < ops.size := (Array.getElem?_eq_some_iff.1 ho).1
    have hki : k ≤ i := by
      rcases Nat.lt_or_ge i k with h | h
      · have := h3 i h
        have hl : i < listed.size := by omega
        simp [hl] at this h0
        rw [this] at h0; cases h0
      · exact h
    obtain rfl : i = k := by
      rcases Nat.lt_or_ge k i with h | h
      · obtain ⟨e, he, hj, hb⟩ := ok.tail i k o (by omega) h ho
        have := hall e he hb
        rw [hj, h4 k (Nat.le_refl _)] at this; cases this
      · omega
    have hd : ops.toList.drop i = o :: ops.toList.drop (i + 1) := by
      have hl : i < ops.toList.length := by simpa using hlt
      rw [List.drop_eq_getElem_cons hl]
      congr 1
      have := (Array.getElem?_eq_some_iff.1 ho).2
      simpa using this
    rw [hd] at h5
    have h5' : wpOp P ops (up C Q) i (wpList P ops (up C Q) (ops.toList.drop (i + 1))) a w := by
      unfold wpOp
      rw [ho]
      exact h5
    refine wpOp_mono (fun a' w' h => .inr ⟨by simpa using hsz, i + 1, by omega, by omega, fun j hj => ?_, fun j hj => ?_, h⟩) h5'
    · by_cases hij : j = i
      · subst hij; have : j < listed.size := by omega
        simp [this]
      · rw [getD_set_ne false (Ne.symm hij)]; exact h3 j (by omega)
    · rw [getD_set_ne false (by omega)]; exact h4 j (by omega)
  refine wp_region_any hm (wpAny_inv (md := .any) (fun listed a w => A listed a w ∨ B listed a w) ?_ ?_ ops.size _ a0 w1 ?_ ?_)
  · intro listed a w i hJ hi
    rcases hJ with hA | hB
    · have hA' := hA
      obtain ⟨h0, o, ho, hall⟩ := mem_ready.1 hi
      obtain ⟨h1, m, al, hm1, hm2, hal, env, h3, h4, h5, h6, h7⟩ := hA
      by_cases hin : i < n
      · -- one of the first
        obtain ⟨hp, hfs⟩ := hstep i o (hget i hin o ho)
        have reads : ∀ t, (t ∈ opRds o ∨ ∃ g b, o.guard = some (g, b) ∧ (ops[g]?).bind (·.dst) = some t) → Rep (owned C.X (H 0 ++ al)) w (fs i t) (a.tmps.getD t undef) := by
          intro t ht
          by_cases hw : ∃ (j : Nat) (p : Oper), j < n ∧ ops[j]? = some p ∧ p.dst = some t
          · obtain ⟨j, p, hj, hp, hd⟩ := hw
            obtain ⟨hji, e, he, hej, hb⟩ := ok.reads i j o p t hin hj ho hp hd ht
            rw [holds j p t hj hp hd i hji (Nat.le_of_lt hin)]
            exact h6 j p t hj hp hd (by have := hall e he hb; rwa [hej] at this)
          · have ht' : ∀ (j : Nat) (p : Oper), j < n → ops[j]? = some p → p.dst ≠ some t := fun j p hj hp hd => hw ⟨j, p, hj, hp, hd⟩
            rw [keep t ht' i (Nat.le_of_lt hin)]
            exact h5 t ht'
        have fin : ∀ v w' al', (∀ {c : AV} {u : Value}, Rep (owned C.X (H 0 ++ al)) w c u → Rep (owned C.X (H 0 ++ al')) w' c u) → AL ia ops (listed.setIfInBounds i true) (a.put o.dst v) al' →
            (∃ m, m ≤ ms.length ∧ (∀ k i', ms[k]? = some i' → ((listed.setIfInBounds i true).getD i' false = true ↔ k < m)) ∧ Env C.X C.w0 (H m ++ al') w') → Rep (owned C.X (H 0 ++ al')) w' (vs i) v → A (listed.setIfInBounds i true) (a.put o.dst v) w' := by
          intro v w' al' mono hal' ⟨m', e1, e2, e3⟩ hr
          refine ⟨by simpa using h1, m', al', e1, e2, hal', e3, ?_, ?_, fun t ht => ?_, fun j p t hj hp hd hl => ?_, fun j hj => ?_⟩
          · cases o.dst <;> exact h3
          · cases o.dst <;> simpa [Act.put] using h4
          · have := mono (h5 t ht)
            cases hd : o.dst with
            | none => exact this
            | some d =>
              have hne : d ≠ t := fun e => ht i o hin ho (by rw [hd, e])
              simpa [Act.put, Array.getElem?_setIfInBounds_ne hne] using this
          · by_cases hij : i = j
            · subst hij
              rw [ho] at hp
              obtain rfl : o = p := by injection hp
              have hlt : t < a.tmps.size := by rw [h4]; exact ok.lt i o t hin ho hd
              rw [hd]
              simpa [Act.put, hlt] using hr
            · rw [getD_set_ne false hij] at hl
              have := mono (h6 j p t hj hp hd hl)
              cases hd' : o.dst with
              | none => exact this
              | some d =>
                have hne : d ≠ t := fun e => hij (ok.uniq i j o p d hin hj ho hp hd' (by rw [hd, e]))
                simpa [Act.put, Array.getElem?_setIfInBounds_ne hne] using this
          · rw [getD_set_ne false (by omega)]; exact h7 j hj
        have alKeep : iaIs ia i = false → ∀ v, AL ia ops (listed.setIfInBounds i true) (a.put o.dst v) al := fun hni v => by
          cases ia with
          | none => exact hal
          | some p =>
            obtain ⟨j, T, zs⟩ := p
            have hij : i ≠ j := fun e => by subst e; simp [iaIs] at hni
            rcases hal with ⟨hl, e⟩ | ⟨hl, g, e, hp⟩
            · exact .inl ⟨by rw [getD_set_ne false hij]; exact hl, e⟩
            · refine .inr ⟨by rw [getD_set_ne false hij]; exact hl, g, e, fun d hd => ?_⟩
              have hpd := hp d hd
              cases hd' : o.dst with
              | none => exact hpd
              | some d' =>
                obtain ⟨q, hq, hqd⟩ := Option.bind_eq_some_iff.1 hd
                have hne : d' ≠ d := fun e => hij (ok.uniq i j o q d' hin (iaLt j T zs rfl).1 ho hq hd' (by rw [hqd, e]))
                simpa [Act.put, Array.getElem?_setIfInBounds_ne hne] using hpd
        have hlt0 : i < listed.size := by rw [h1]; exact (Array.getElem?_eq_some_iff.1 ho).1
        have hil : listed.getD i false = false := by
          have := h0
          simp [hlt0] at this ⊢
          exact this
        unfold wpOp
        rw [ho]
        simp only []
        rcases hp with ⟨hni, hna, hpk⟩ | ⟨hna, k, hk, hg, hst⟩ | ⟨hni, hg, hav, T, zs, hiaE, hop, hz⟩
        · have hE : ∀ w', Bl C.w0.K w w' → ∃ m, m ≤ ms.length ∧ (∀ k i', ms[k]? = some i' → ((listed.setIfInBounds i true).getD i' false = true ↔ k < m)) ∧ Env C.X C.w0 (H m ++ al) w' := fun w' hb =>
            ⟨m, hm1, fun k i' hki => by rw [getD_set_ne false (fun e : i = i' => hni (e ▸ List.mem_of_getElem? hki))]; exact hm2 k i' hki, env.below_ hb⟩
          have hreads := reads
          rw [← hO m hm1] at hreads
          have fin' : ∀ v w', Bl C.w0.K w w' → Rep (owned C.X (H m ++ al)) w' (vs i) v → A (listed.setIfInBounds i true) (a.put o.dst v) w' := fun v w' hb hr => fin v w' al (fun h => Rep.mono (Kept.of_below hb.b) (fun _ _ h => h) _ _ h) (alKeep hna v) (hE w' hb) (by rw [← hO m hm1]; exact hr)
          rcases hpk m hm1 al with ⟨hg, hp⟩ | ⟨g, b, b', t, hg, hgd, hft, hy, hn⟩ | ⟨g, b, t, hg, hgd, hft, hav⟩
          · rw [wanted_none hg]
            exact .inl (hp a w C.w0 rfl env h4 (fun t ht => hreads t (.inl ht)) _ _ fun v w' hb hr => .inl (fin' v w' hb hr))
          · have hr := hreads t (.inr ⟨g, b, hg, hgd⟩)
            rw [hft] at hr
            simp only [Rep] at hr
            have hyl := yield_bool hgd hr
            by_cases hbb : b' = b
            · subst hbb
              rw [show Region.wanted o (yielded ops a.tmps) = true by simp [Region.wanted, hg, hyl]]
              exact .inl (hy rfl a w C.w0 rfl env h4 (fun t ht => hreads t (.inl ht)) _ _ fun v w' hb hr => .inl (fin' v w' hb hr))
            · rw [show Region.wanted o (yielded ops a.tmps) = false by simp [Region.wanted, hg, hyl, hbb]]
              exact .inl (fin' undef w (Bl.refl _ _) (by
                rcases hn hbb with e | e
                · rw [e]; exact undef_rep
                · rw [e]; exact rep_x.2 rfl))
          · have hr := hreads t (.inr ⟨g, b, hg, hgd⟩)
            rw [hft] at hr
            simp only [Rep] at hr
            have hyl : yielded ops a.tmps g = none := by
              unfold yielded
              rw [hgd]
              show (match a.tmps[t]? with | some (.bool b) => some b | _ => none) = none
              rw [Array.getD_eq_getD_getElem?] at hr
              cases hh : a.tmps[t]? with
              | none => rfl
              | some v => rw [hh] at hr; obtain rfl : v = undef := hr; rfl
            rw [show Region.wanted o (yielded ops a.tmps) = false by simp [Region.wanted, hg, hyl]]
            exact .inl (fin' undef w (Bl.refl _ _) (by rw [hav]; exact rep_x.2 rfl))
        · obtain ⟨hkl, hke⟩ := List.getElem?_eq_some_iff.1 hk
          have hkm : k = m := by
            have g1 : ¬ k < m := fun g => by have := (hm2 k i hk).2 g; rw [hil] at this; cases this
            have g2 : k ≤ m := by
              rcases Nat.eq_zero_or_pos k with g | g
              · omega
              · have hml : k - 1 < ms.length := by omega
                have pw := hms2.2.2 (k - 1) ms[k - 1] i (List.getElem?_eq_getElem hml) (by rw [show k - 1 + 1 = k by omega]; exact hk) o ho
                obtain ⟨e, he, hej, hb⟩ := memE_spec pw
                have := hall e he hb
                rw [hej] at this
                have := (hm2 (k - 1) ms[k - 1] (List.getElem?_eq_getElem hml)).1 this
                omega
            omega
          subst hkm
          have hreads := reads
          rw [← hO k hm1] at hreads
          rw [wanted_none hg]
          refine .inl (hst al a w env h4 (fun t ht => hreads t (.inl ht)) _ _ fun v w' henv hkeep hr => .inl (fin v w' al (fun h => Rep.mono (by rw [← hO k hm1]; exact hkeep) (fun _ _ h => h) _ _ h) (alKeep hna v) ⟨k + 1, hkl, fun k' i' hki => ?_, henv⟩ (by rw [← hO (k + 1) hkl]; exact hr)))
          by_cases hii : i = i'
          · subst hii
            have := msInj k' k i hki hk
            subst this
            simp [hlt0]
          · rw [getD_set_ne false hii, hm2 k' i' hki]
            have : k' ≠ k := fun e => by subst e; rw [hk] at hki; injection hki with hki; exact hii hki
            omega
        · subst hiaE
          rcases hal with ⟨_, rfl⟩ | ⟨hl, _⟩
          · rw [List.append_nil] at env
            rw [wanted_none hg]
            obtain ⟨z, hz1, hz2⟩ := tyZero_spec hz w
            have hrun : (execOp a.eval o).run P w = .ok (.value (.pointer (some ⟨w.heap.size, 0, none⟩))) (w.alloc (.cells z.cells T)) := by
              simp [execOp, hop, Instr.alloc, hz1, newVar, newRow]
            have hst0 : C.St ⟨fun _ => .any, H m⟩ a w := ⟨env, h3, h4, fun t => by simp only [Rep]⟩
            have hnew := st_new (T := T) hst0 (by rw [← Array.length_toList, hz2]; simp) (show RepC _ _ (zs.map .x) (fun j => z.cells[j]?) by
              have e : (fun j => z.cells[j]?) = (fun j => zs[j]?) := funext fun j => by rw [← hz2]; exact Array.getElem?_toList.symm
              rw [e]; exact zero_rep zs) o.dst
            have hbl : Bl C.w0.K w (w.alloc (.cells z.cells T)) := Bl.alloc _ _ _
            refine .inl ?_
            unfold Oper.wp
            rw [hrun]
            refine .inl (fin _ _ [.cells w.heap.size T (zs.map .x)] (fun h => Rep.mono (Kept.of_below hbl.b) (fun b hlt hb => ?_) _ _ h) (.inr ⟨by simp [hlt0], _, rfl, fun d hd => ?_⟩) ⟨m, hm1, fun k i' hki => by rw [getD_set_ne false (fun e : i = i' => hni (e ▸ List.mem_of_getElem? hki))]; exact hm2 k i' hki, hnew.env⟩ (by rw [hav]; simp only [Rep]))
            · rcases hb with hx | ⟨q, hq, hqb⟩
              · exact .inl hx
              · rcases List.mem_append.1 hq with hq | hq
                · exact .inr ⟨q, List.mem_append_left _ hq, hqb⟩
                · obtain rfl : q = .cells w.heap.size T (zs.map .x) := by simpa using hq
                  simp only [HObj.blk, Option.some.injEq] at hqb
                  omega
            · rw [ho] at hd
              have hd' : o.dst = some d := hd
              have hlt : d < a.tmps.size := by rw [h4]; exact ok.lt i o d hin ho hd'
              rw [hd']
              simp [Act.put, hlt]
          · rw [hil] at hl; cases hl
      · -- the first of those behind
        have hall' : ∀ j, j < i → listed.getD j false = true := fun j hj => by
          obtain ⟨e, he, hej, hb⟩ := ok.tail i j o (by omega) hj ho
          have := hall e he hb
          rwa [hej] at this
        have hni : i = n := by
          rcases Nat.lt_or_ge n i with h | h
          · have := hall' n h
            rw [h7 n (Nat.le_refl _)] at this; cases this
          · omega
        subst hni
        have hwl := full listed a w hA' hall'
        exact stepB listed a w i ⟨h1, i, Nat.le_refl _, ok.le, hall', h7, hwl⟩ hi
    · exact stepB listed a w i hB hi
  · intro listed a w hJ hr
    have hsz : listed.size = ops.size := by rcases hJ with h | h <;> exact h.1
    have hall := all_listedB ok.down hsz hr
    rcases hJ with hA | ⟨_, k, h1, h2, h3, h4, h5⟩
    · have hn : n = ops.size := by
        rcases Nat.lt_or_ge n ops.size with h | h
        · have := hall n h
          obtain ⟨_, _, _, _, _, _, _, _, _, _, _, h7⟩ := hA
          rw [h7 n (Nat.le_refl _)] at this; cases this
        · have := ok.le; omega
      have hwl := full listed a w hA fun j hj => hall j (by omega)
      have e : ops.toList.drop n = [] := by rw [hn]; exact List.drop_eq_nil_of_le (by simp)
      rw [e] at hwl
      exact hwl
    · have hk : k = ops.size := by
        rcases Nat.lt_or_ge k ops.size with h | h
        · have := hall k h
          rw [h4 k (Nat.le_refl _)] at this; cases this
        · omega
      have e : ops.toList.drop k = [] := by rw [hk]; exact List.drop_eq_nil_of_le (by simp)
      rw [e] at h5
      exact h5
  · unfold unl
    have := List.length_filter_le (fun i => !(Array.replicate ops.size false).getD i true) (List.range ops.size)
    simpa using this
  · have gf : ∀ i, (Array.replicate ops.size false).getD i false = false := fun j => by
      rw [Array.getD_eq_getD_getElem?]
      by_cases hlt : j < ops.size
      · simp [hlt]
      · simp [hlt]
    refine .inl ⟨by simp, 0, [], Nat.zero_le _, fun k i hki => ?_, ?_, by rw [List.append_nil]; exact hs1.env, hs1.slots.defers, hs1.slots.size, fun t _ => by rw [List.append_nil]; exact hs1.slots.slot t, fun j p t hj hp hd hl => ?_, fun j hj => gf j⟩
    · rw [gf]; simp
    · cases ia with
      | none => exact rfl
      | some p => exact .inl ⟨gf _, rfl⟩
    · rw [gf] at hl; cases hl
end

section
variable {P : Program} {C : Cx} {Q : Exit → AS → Prop} {f : Nat → AV} {h : List HObj} {ops : Array Oper} {o : Oper} {rest : List Oper} {H : Nat → List HObj} {ms : List Nat} {i : Nat} {G : (Nat → AV) → Prop}
theorem wDrawM {id : Nat} {l : List Oper} (n : Nat) (hm : P.follows .mixedOrders = true) (hok : drawOkB l.toArray n C.N = true) (H : Nat → List HObj) (ms : List Nat) (hms : msOk l.toArray n ms = true) (hH0 : H 0 = h)
    (hO : ∀ m, m ≤ ms.length → (H m).map HObj.blk = (H 0).map HObj.blk)
    (k : ChainM P C H none l.toArray ms 0 (l.take n) f fun f => WL none P C l.toArray Q (l.drop n) ⟨f, H ms.length⟩) : W P C (.region id l.toArray true) Q ⟨f, h⟩ :=
  ⟨aw_drawM hm n hok H none ms hms rfl hH0 hO (by simpa using ChainM.imp (G := fun f => WL none P C l.toArray Q (l.drop n) ⟨f, H ms.length⟩) (fun f k => by simpa [FinM] using k.run) (by simpa using k))⟩
theorem wDrawA {id : Nat} {l : List Oper} (n ia d : Nat) (T : TypeId) (zs : List Value) (hm : P.follows .mixedOrders = true) (hok : drawOkB l.toArray n C.N = true) (H : Nat → List HObj) (ms : List Nat) (hms : msOk l.toArray n ms = true) (hia : iaOk l.toArray n (some (ia, T, zs)) = true) (hd : (l.toArray[ia]?).bind (·.dst) = some d) (hH0 : H 0 = h)
    (hO : ∀ m, m ≤ ms.length → (H m).map HObj.blk = (H 0).map HObj.blk)
    (k : ChainM P C H (some (ia, T, zs)) l.toArray ms 0 (l.take n) f fun f => ∀ g, WL none P C l.toArray Q (l.drop n) ⟨upd f d (.x (.pointer (some ⟨g, 0, none⟩))), H ms.length ++ [.cells g T (zs.map .x)]⟩) : W P C (.region id l.toArray true) Q ⟨f, h⟩ :=
  ⟨aw_drawM hm n hok H (some (ia, T, zs)) ms hms hia hH0 hO (ChainM.imp (G := fun f => ∀ g, WL none P C l.toArray Q (l.drop n) ⟨upd f d (.x (.pointer (some ⟨g, 0, none⟩))), H ms.length ++ [.cells g T (zs.map .x)]⟩) (fun f k => fun g d' hd' => by
    rw [hd] at hd'
    injection hd' with hd'
    subst hd'
    simpa using (k g).run) (by simpa using k))⟩
theorem dwNil {ia : IA} (k : G f) : ChainM P C H ia ops ms i [] f G := k
theorem dwP {ia : IA} {av : AV} {d : Nat} (hi : ms.contains i = false) (hia : iaIs ia i = false) (hg : o.guard = none) (hd : o.dst = some d) (hN : Nat.blt d C.N = true) (hp : ∀ k al, PureOp P C.w0.K C.N C.X (H k ++ al) f o av) (k : ChainM P C H ia ops ms (i + 1) rest (upd f d av) G) : ChainM P C H ia ops ms i (o :: rest) f G :=
  ⟨av, .inl ⟨fun hm => by rw [List.contains_eq_mem] at hi; simp [hm] at hi, hia, fun k _ al => .inl ⟨hg, hp k al⟩⟩, by rw [hd, putT_upd hN]; exact k⟩
theorem dwM {ia : IA} {av : AV} {d : Nat} (m : Nat) (hi : ms[m]? = some i) (hia : iaIs ia i = false) (hg : o.guard = none) (hd : o.dst = some d) (hN : Nat.blt d C.N = true) (hp : ∀ al, MStep P C (H m ++ al) (H (m + 1) ++ al) f o av) (k : ChainM P C H ia ops ms (i + 1) rest (upd f d av) G) : ChainM P C H ia ops ms i (o :: rest) f G :=
  ⟨av, .inr (.inl ⟨hia, m, hi, hg, hp⟩), by rw [hd, putT_upd hN]; exact k⟩
theorem dwS {ia : IA} (m : Nat) (hi : ms[m]? = some i) (hia : iaIs ia i = false) (hg : o.guard = none) (hd : o.dst = none) (hp : ∀ al, MStep P C (H m ++ al) (H (m + 1) ++ al) f o .any) (k : ChainM P C H ia ops ms (i + 1) rest f G) : ChainM P C H ia ops ms i (o :: rest) f G :=
  ⟨.any, .inr (.inl ⟨hia, m, hi, hg, hp⟩), by rw [hd]; exact k⟩
theorem dwA {T : TypeId} {zs : List Value} {d : Nat} (hi : ms.contains i = false) (hg : o.guard = none) (hd : o.dst = some d) (hN : Nat.blt d C.N = true) (ho : o.op = .alloc T) (hz : tyZero P T = some zs) (k : ChainM P C H (some (i, T, zs)) ops ms (i + 1) rest (upd f d .any) G) : ChainM P C H (some (i, T, zs)) ops ms i (o :: rest) f G :=
  ⟨.any, .inr (.inr ⟨fun hm => by rw [List.contains_eq_mem] at hi; simp [hm] at hi, hg, rfl, T, zs, rfl, ho, hz⟩), by rw [hd, putT_upd hN]; exact k⟩
end
end Go.Proofs.Ytmhkalalcmkpbaa

namespace Go.Proofs.Ytmhkalalcmkpbaa
open Go.ChangeShapes Go.WideShapes Go.ChangeAt Go.RowKit Go.Deep
set_option linter.unusedVariables false
set_option linter.unusedSimpArgs false

set_option maxRecDepth 100000 in
/-- The cells of one name. -/
theorem el_dot {H : Type} {enc : TypeId × Value → H} {W : World} {b0 : Nat} {sp : Nat → Bool} {hd : Bool} (fuel : Nat) (cs : List Value) (x : DataW H × List MemPlace)
    (h : DataW.trod enc Try.prog W b0 sp hd fuel 23 cs = some x) : ∃ y : Int × Int, cs = encD y := by
  obtain ⟨ys, n, _, hx, hlen, hyl, hf⟩ := DataW.trod_struct Try.underlying23 h
  have hC : Try.prog.cellsOf 23 = 2 := by kernel_rfl
  have hI : Try.prog.cellsOf 3 = 1 := by kernel_rfl
  rw [hC] at hlen
  match cs, hlen with
  | [c0, c1], _ =>
    match ys, hyl with
    | [y0, y1], _ =>
      have h0 : DataW.trod enc Try.prog W b0 sp hd n 3 ((([c0, c1] : List Value).drop 0).take (Try.prog.cellsOf 3)) = some y0 := hf 0 _ rfl
      have h1 : DataW.trod enc Try.prog W b0 sp hd n 3 ((([c0, c1] : List Value).drop 1).take (Try.prog.cellsOf 3)) = some y1 := hf 1 _ rfl
      rw [hI] at h0 h1
      obtain ⟨z0, e0, _⟩ := DataW.trod_int Try.underlying3 h0
      obtain ⟨z1, e1, _⟩ := DataW.trod_int Try.underlying3 h1
      simp at e0 e1
      exact ⟨(z0, z1), by rw [e0, e1]; rfl⟩
set_option maxRecDepth 100000 in
theorem read_dots {H : Type} {enc : TypeId × Value → H} {W : World} {b0 : Nat} {hd : Bool} {a : Option Addr} {len cap : Nat} {d : DataW H} {p : List MemPlace}
    (h : DataW.Trod enc Try.prog W b0 (fun _ => true) hd 27 (.slice a len cap) d p) : ∃ xs : List (Int × Int), RdD W W.heap.size a len xs := by
  obtain ⟨xs, _, hr⟩ := read_slice encD 2 (by decide) (fun _ => rfl) (by kernel_rfl) (by kernel_rfl) (fun fuel cs x hx => el_dot fuel cs x hx) h
  exact ⟨xs, hr⟩
set_option maxRecDepth 100000 in
theorem read_dot {H : Type} {enc : TypeId × Value → H} {W : World} {b0 : Nat} {r : Reach} {b1 : Nat} {hd : Bool} {v : Value} {d : DataW H} {p : List MemPlace}
    (hv : Value.okWide Try.prog W r b1 23 v) (h : DataW.Trod enc Try.prog W b0 (fun _ => true) hd 23 v d p) : ∃ x : Int × Int, v = dotv x := by
  obtain ⟨cs, rfl, hsz⟩ := okWide_struct Try.underlying23 hv
  obtain ⟨fuel, hf⟩ := h
  obtain ⟨y, hy⟩ := el_dot _ _ _ hf
  refine ⟨y, ?_⟩
  have : cs.toList = encD y := by simpa [Value.cells] using hy
  show Value.agg cs = Value.agg #[_, _]
  congr 1
  exact Array.ext' (by rw [this]; rfl)
end Go.Proofs.Ytmhkalalcmkpbaa

namespace Go.Proofs.Ytmhkalalcmkpbaa
open Go.ChangeShapes Go.WideShapes Go.ChangeAt Go.RowKit Go.Deep
set_option linter.unusedVariables false
set_option linter.unusedSimpArgs false

set_option maxRecDepth 100000 in
theorem el_stamp {H : Type} {enc : TypeId × Value → H} {W : World} {b0 : Nat} {sp : Nat → Bool} {hd : Bool} (fuel : Nat) (cs : List Value) (x : DataW H × List MemPlace)
    (h : DataW.trod enc Try.prog W b0 sp hd fuel 25 cs = some x) : ∃ a b c : Int, cs = [.int .i64 a, .int .i64 b, .int .i64 c] := by
  obtain ⟨ys, n, _, hx, hlen, hyl, hf⟩ := DataW.trod_struct Try.underlying25 h
  have hC : Try.prog.cellsOf 25 = 3 := by kernel_rfl
  have hI : Try.prog.cellsOf 3 = 1 := by kernel_rfl
  rw [hC] at hlen
  match cs, hlen with
  | [c0, c1, c2], _ =>
    match ys, hyl with
    | [y0, y1, y2], _ =>
      have h0 : DataW.trod enc Try.prog W b0 sp hd n 3 ((([c0, c1, c2] : List Value).drop 0).take (Try.prog.cellsOf 3)) = some y0 := hf 0 _ rfl
      have h1 : DataW.trod enc Try.prog W b0 sp hd n 3 ((([c0, c1, c2] : List Value).drop 1).take (Try.prog.cellsOf 3)) = some y1 := hf 1 _ rfl
      have h2 : DataW.trod enc Try.prog W b0 sp hd n 3 ((([c0, c1, c2] : List Value).drop 2).take (Try.prog.cellsOf 3)) = some y2 := hf 2 _ rfl
      rw [hI] at h0 h1 h2
      obtain ⟨z0, e0, _⟩ := DataW.trod_int Try.underlying3 h0
      obtain ⟨z1, e1, _⟩ := DataW.trod_int Try.underlying3 h1
      obtain ⟨z2, e2, _⟩ := DataW.trod_int Try.underlying3 h2
      simp at e0 e1 e2
      exact ⟨z0, z1, z2, by rw [e0, e1, e2]⟩
set_option maxRecDepth 100000 in
/-- The cells of one fact. -/
theorem el_fact {H : Type} {enc : TypeId × Value → H} {W : World} {b0 : Nat} {sp : Nat → Bool} {hd : Bool} (fuel : Nat) (cs : List Value) (x : DataW H × List MemPlace)
    (h : DataW.trod enc Try.prog W b0 sp hd fuel 87 cs = some x) : ∃ y : FactT, cs = encV y := by
  obtain ⟨ys, n, _, hx, hlen, hyl, hf⟩ := DataW.trod_struct Try.underlying87 h
  have hC : Try.prog.cellsOf 87 = 8 := by kernel_rfl
  have hI : Try.prog.cellsOf 3 = 1 := by kernel_rfl
  have hS : Try.prog.cellsOf 9 = 1 := by kernel_rfl
  have hD : Try.prog.cellsOf 23 = 2 := by kernel_rfl
  have hW : Try.prog.cellsOf 25 = 3 := by kernel_rfl
  rw [hC] at hlen
  match cs, hlen with
  | [c0, c1, c2, c3, c4, c5, c6, c7], _ =>
    match ys, hyl with
    | [y0, y1, y2, y3, y4], _ =>
      have h0 : DataW.trod enc Try.prog W b0 sp hd n 23 ((([c0, c1, c2, c3, c4, c5, c6, c7] : List Value).drop 0).take (Try.prog.cellsOf 23)) = some y0 := hf 0 _ rfl
      have h1 : DataW.trod enc Try.prog W b0 sp hd n 25 ((([c0, c1, c2, c3, c4, c5, c6, c7] : List Value).drop 2).take (Try.prog.cellsOf 25)) = some y1 := hf 1 _ rfl
      have h2 : DataW.trod enc Try.prog W b0 sp hd n 3 ((([c0, c1, c2, c3, c4, c5, c6, c7] : List Value).drop 5).take (Try.prog.cellsOf 3)) = some y2 := hf 2 _ rfl
      have h3 : DataW.trod enc Try.prog W b0 sp hd n 9 ((([c0, c1, c2, c3, c4, c5, c6, c7] : List Value).drop 6).take (Try.prog.cellsOf 9)) = some y3 := hf 3 _ rfl
      have h4 : DataW.trod enc Try.prog W b0 sp hd n 9 ((([c0, c1, c2, c3, c4, c5, c6, c7] : List Value).drop 7).take (Try.prog.cellsOf 9)) = some y4 := hf 4 _ rfl
      rw [hD] at h0
      rw [hW] at h1
      rw [hI] at h2
      rw [hS] at h3 h4
      obtain ⟨d, e0⟩ := el_dot _ _ _ h0
      obtain ⟨s1, s2, s3, e1⟩ := el_stamp _ _ _ h1
      obtain ⟨z2, e2, _⟩ := DataW.trod_int Try.underlying3 h2
      obtain ⟨z3, e3, _⟩ := DataW.trod_string Try.underlying9 h3
      obtain ⟨z4, e4, _⟩ := DataW.trod_string Try.underlying9 h4
      simp [encD] at e0 e1 e2 e3 e4
      refine ⟨(d, (s1, s2, s3), z2, z3, z4), ?_⟩
      rw [e0.1, e0.2, e1.1, e1.2.1, e1.2.2, e2, e3, e4]; rfl
set_option maxRecDepth 100000 in
theorem read_facts {H : Type} {enc : TypeId × Value → H} {W : World} {b0 : Nat} {hd : Bool} {a : Option Addr} {len cap : Nat} {d : DataW H} {p : List MemPlace}
    (h : DataW.Trod enc Try.prog W b0 (fun _ => true) hd 26 (.slice a len cap) d p) : ∃ xs : List FactT, xs.length = len ∧ Reads W W.heap.size 8 a len (xs.flatMap encV) :=
  read_slice encV 8 (by decide) (fun _ => rfl) (by kernel_rfl) (by kernel_rfl) (fun fuel cs x hx => el_fact fuel cs x hx) h
set_option maxRecDepth 100000 in
theorem read_fact {H : Type} {enc : TypeId × Value → H} {W : World} {b0 : Nat} {r : Reach} {b1 : Nat} {hd : Bool} {v : Value} {d : DataW H} {p : List MemPlace}
    (hv : Value.okWide Try.prog W r b1 87 v) (h : DataW.Trod enc Try.prog W b0 (fun _ => true) hd 87 v d p) : ∃ x : FactT, v = .agg (encV x).toArray := by
  obtain ⟨cs, rfl, hsz⟩ := okWide_struct Try.underlying87 hv
  obtain ⟨fuel, hf⟩ := h
  obtain ⟨y, hy⟩ := el_fact _ _ _ hf
  refine ⟨y, ?_⟩
  have : cs.toList = encV y := by simpa [Value.cells] using hy
  congr 1
  exact Array.ext' (by rw [this])
end Go.Proofs.Ytmhkalalcmkpbaa

namespace Go.Proofs.Ytmhkalalcmkpbaa
open Go Go.RowKit
set_option linter.unusedVariables false
set_option linter.unusedSimpArgs false

theorem fr4 (s : ByteArray) (m : List FactT) : (freadE s = 0 ∧ fputE m = 0) ∨ (freadE s = 0 ∧ fputE m ≠ 0) ∨ (freadE s ≠ 0 ∧ fputE m = 0) ∨ (freadE s ≠ 0 ∧ fputE m ≠ 0) := by
  by_cases h1 : freadE s = 0 <;> by_cases h2 : fputE m = 0 <;> simp [h1, h2]
theorem freadL_ok_all (s : ByteArray) : ∀ f ∈ freadL s, okF f := by
  intro f hf
  unfold freadL at hf
  split at hf
  · simp at hf
  · exact rdFs_ok _ _ f hf
theorem freadL_len (s : ByteArray) : (freadL s).length < 1000000 := by
  by_cases h : freadE s = 0
  · have := (fputE_zero (fput_read h).1).1; omega
  · unfold freadL; rw [if_pos h]; decide
theorem fputS_size {m : List FactT} (h : ∀ f ∈ m, okF f) : (fputS m).size < 9223372036854775807 := by
  by_cases h1 : fputE m = 0
  · rw [fputS_ok h1, ByteArray.size_append]
    have := factsB_size m h (fputE_zero h1).1
    have := numS_size m.length
    omega
  · rw [fputS_err h1]; decide
theorem same_eq {a b : List FactT} (h : a = b) (hn : b.length < 1000000) : PFn Try.prog False 47 [slF a, slF b] (bA true) := by
  have h2 := rfsame_p a b (by rw [h]; exact hn) hn
  rw [decide_eq_true h] at h2
  exact h2
theorem neq_t {a : Int} (h : a ≠ 0) : icmp .neq a 0 = some true := congrArg some (by simp [h])
theorem neq_f {a : Int} (h : a = 0) : icmp .neq a 0 = some false := congrArg some (by simp [h])
theorem eql_t {a b : Int} (h : a = b) : icmp .eql a b = some true := congrArg some (decide_eq_true h)
theorem seql_t {a b : ByteArray} (h : a = b) : scmp .eql a b = some true := congrArg some (decide_eq_true h)

theorem facts_rep {w : World} {A : Option Addr} {n c : Nat} {l : List FactT} (hl : l.length = n) (hnc : n ≤ c) (hcm : c ≤ 9223372036854775807) (hr : Reads w w.heap.size 8 A n (l.flatMap encV)) : Rep (fun _ => False) w (slF l) (.slice A n c) := by
  subst hl
  simp only [Rep]
  refine ⟨flat_lenG encF8 l, A, c, rfl, hnc, hcm, ?_⟩
  rcases Nat.eq_zero_or_pos l.length with h0 | h0
  · exact .inl (by rw [h0])
  · obtain ⟨ad, h1, h2, h3⟩ := hr.2 h0
    refine .inr ⟨ad, h1, h2, fun h => h, ?_⟩
    refine RepC.mk fun j cc hj => ?_
    obtain ⟨u, hu, hru⟩ := (vals_rep (O := fun _ => False) (w := w) l).at_ j cc hj
    exact ⟨u, h3 j u hu, hru⟩
end Go.Proofs.Ytmhkalalcmkpbaa

namespace Go.Proofs.Ytmhkalalcmkpbaa
open Go Go.RowKit
set_option linter.unusedVariables false
set_option linter.unusedSimpArgs false

theorem readD_len (s : ByteArray) : (readD s).1.length ≤ 4096 := by
  unfold readD
  split
  · simp
  · split
    · simp
    · split
      · simp
      · rename_i h _ _
        have key : ∀ (n : Nat) (st : ByteArray × Int), (rdL n st).1.length ≤ n := by
          intro n
          induction n with
          | zero => intro st; simp [rdL]
          | succ n ih =>
            intro st
            by_cases h : st.2 = 0
            · rw [rdL_step _ _ h]; have := ih (rdN (rdN st).2).2; simp; omega
            · rw [rdL_stop _ _ h]; simp
        have := key (rdN (s, 0)).1 (rdN (s, 0)).2
        show (rdL (rdN (s, 0)).1 (rdN (s, 0)).2).1.length ≤ 4096
        omega
theorem putSD_size (l : List (Int × Int)) : (putS l).size ≤ 8 + 16 * l.length := by
  unfold putS
  split
  · exact Nat.zero_le _
  · have h1 := putL_size l (numS l.length)
    have h2 := numS_size l.length
    omega
theorem dputE_err {d : DeltaT} (h : deltaE d ≠ 0) : dputE d = deltaE d := if_pos h
theorem dputE_long {d : DeltaT} (h : deltaE d = 0) {k : Nat} {t : ByteArray} (ht : (partsD d)[k]? = some t) (hl : 65536 < t.size) : dputE d = 3 := by
  have h2 : t ∈ partsD d := List.mem_of_getElem? ht
  simp only [partsD, List.mem_cons, List.not_mem_nil, or_false] at h2
  unfold dputE
  rw [if_neg (by simpa using h), if_pos]
  rcases h2 with rfl | rfl
  · exact .inl hl
  · exact .inr hl
theorem dputE_ok {d : DeltaT} (h : deltaE d = 0) (hl : ∀ (j : Nat) t, (partsD d)[j]? = some t → t.size ≤ 65536) : dputE d = 0 := by
  have h1 := hl 0 _ rfl
  have h2 := hl 1 _ rfl
  unfold dputE
  rw [if_neg (by simpa using h), if_neg (by omega)]
theorem dputS_err {d : DeltaT} (h : dputE d ≠ 0) : dputS d = ⟨#[]⟩ := if_pos h
theorem dputS_ok {d : DeltaT} (h : dputE d = 0) : dputS d = cat ((numsD d).map numS) ++ cat ((partsD d).map txS) := if_neg (by simpa using h)
theorem numsD_size (d : DeltaT) (k : Nat) : (cat (((numsD d).take k).map numS)).size ≤ 32 := by
  have h := cat_size (k := 8) (((numsD d).take k).map numS) fun x hx => by obtain ⟨n, _, rfl⟩ := List.mem_map.1 hx; exact numS_size n
  have h2 : (((numsD d).take k).map numS).length ≤ 4 := by rw [List.length_map, List.length_take]; exact Nat.min_le_right _ _
  omega
theorem partD_size {d : DeltaT} (ok : OkD d) {k : Nat} {t : ByteArray} (ht : (partsD d)[k]? = some t) : t.size < 9223372036854775807 := by
  have h2 : t ∈ partsD d := List.mem_of_getElem? ht
  simp only [partsD, List.mem_cons, List.not_mem_nil, or_false] at h2
  rcases h2 with rfl | rfl
  · exact fputS_size ok.of
  · have := putSD_size d.2.2.2; have := ok.ng; omega
theorem txE_no {t : ByteArray} (h : txE t = 0) : t.size ≤ 65536 := by
  unfold txE at h
  by_cases g : 65536 < t.size
  · rw [if_pos g] at h; cases h
  · omega
theorem txE_yes {t : ByteArray} (h : txE t ≠ 0) : 65536 < t.size ∧ txE t = 3 := by
  unfold txE at h ⊢
  by_cases g : 65536 < t.size
  · rw [if_pos g]; exact ⟨g, rfl⟩
  · rw [if_neg g] at h; exact absurd rfl h

set_option maxRecDepth 100000 in
theorem deput_p (d : DeltaT) (ok : OkD d) : PFn Try.prog False 15 [dlA d] (.tup [sA (dputS d), iA (dputE d)]) := by
  refine pfn Try.func15 rfl (by kernel_rfl) 79 rfl _ rfl (Nat.le_of_ble_eq_true rfl) (fun X w0 => ?_)
  refine wSeq ?_
  refine wReg ?_  -- region 0
  refine sBox rfl rfl rfl rfl rfl (fun g1 => ?_)  -- t1 := box t0
  refine sP rfl rfl rfl (pA rfl rfl) ?_  -- t2 := assign c
  refine sP rfl rfl rfl (pA rfl rfl) ?_  -- t3 := assign c
  refine lNil ?_
  refine wSeq ?_
  refine wSeq ?_
  refine wReg ?_  -- region 1
  refine sP rfl rfl rfl (pLdW 0 rfl rfl rfl ty29 rfl) ?_  -- t18 := load t1
  refine sP rfl rfl rfl (p_call rfl (delta_p d ok) ⟨Sub.refl, trivial⟩) ?_  -- t19 := call   -- t18
  refine sP rfl rfl rfl (pA rfl rfl) ?_  -- t4 := assign t19
  refine lNil ?_
  refine wSeq ?_
  refine wReg ?_  -- region 2
  refine sP rfl rfl rfl (pM rfl rfl) ?_  -- t20 := move t4
  refine sP rfl rfl rfl (p_icmp rfl rfl rfl rfl) ?_  -- t21 := binOp t20 c
  refine lNil ?_
  refine wCond rfl (fun hc1 => ?_) (fun hc1 => ?_)  -- t21
  · refine wSeq ?_
    refine wReg ?_  -- region 3
    refine sP rfl rfl rfl (pM rfl rfl) ?_  -- t22 := move t4
    refine sP rfl rfl rfl (pA rfl rfl) ?_  -- t2 := assign c
    refine sP rfl rfl rfl (pA rfl rfl) ?_  -- t3 := assign t22
    refine lNil ?_
    refine wRet ?_
    have h : deltaE d ≠ 0 := by simpa using hc1
    have he := dputE_err h
    exact rgs2 (rg_tmp (gives_sub (Sub.of_eq (avS (dputS_err (by rw [he]; exact h)).symm)))) (rg_tmp (gives_sub (Sub.of_eq (avI he.symm))))
  · have hz : deltaE d = 0 := by simpa using hc1
    refine wSkip ?_
    refine wSeq ?_
    refine wReg ?_  -- region 4
    refine sP rfl rfl rfl (pA rfl rfl) ?_  -- t5 := assign c
    refine lNil ?_
    refine wSeq ?_
    refine wSeq ?_
    refine wReg ?_  -- region 5
    refine sP rfl rfl rfl (p_fieldAddr_own rfl rfl fl29_0 ty23 (by decide)) ?_  -- t23 := fieldAddr t1
    refine sP rfl rfl rfl (p_fieldAddr_own rfl rfl fl23_0 ty3 (by decide)) ?_  -- t24 := fieldAddr t23
    refine sP rfl rfl rfl (pLdO1 0 rfl rfl rfl ty3 rfl) ?_  -- t25 := load t24
    refine sP rfl rfl rfl (p_fieldAddr_own rfl rfl fl29_0 ty23 (by decide)) ?_  -- t26 := fieldAddr t1
    refine sP rfl rfl rfl (p_fieldAddr_own rfl rfl fl23_1 ty3 (by decide)) ?_  -- t27 := fieldAddr t26
    refine sP rfl rfl rfl (pLdO1 0 rfl rfl rfl ty3 rfl) ?_  -- t28 := load t27
    refine sP rfl rfl rfl (p_fieldAddr_own rfl rfl fl29_1 ty25 (by decide)) ?_  -- t29 := fieldAddr t1
    refine sP rfl rfl rfl (p_fieldAddr_own rfl rfl fl25_0 ty3 (by decide)) ?_  -- t30 := fieldAddr t29
    refine sP rfl rfl rfl (pLdO1 0 rfl rfl rfl ty3 rfl) ?_  -- t31 := load t30
    refine sP rfl rfl rfl (p_fieldAddr_own rfl rfl fl29_1 ty25 (by decide)) ?_  -- t32 := fieldAddr t1
    refine sP rfl rfl rfl (p_fieldAddr_own rfl rfl fl25_1 ty3 (by decide)) ?_  -- t33 := fieldAddr t32
    refine sP rfl rfl rfl (pLdO1 0 rfl rfl rfl ty3 rfl) ?_  -- t34 := load t33
    refine sP rfl rfl rfl (p_build_arr (res := [iA d.1.1, iA d.1.2, iA d.2.1.1, iA d.2.1.2.1]) rfl ze100 Try.underlying100 ty3 rfl rfl) ?_  -- t35 := build 
    refine sP rfl rfl rfl (pM rfl rfl) ?_  -- t36 := move c
    refine lNil ?_
    refine wBlock ?_
    refine wLoop (fun mm L h => ∃ k s, mm = 4 - k ∧ k ≤ 4 ∧ s = cat (((numsD d).take k).map numS) ∧ L = [(1, .x (.pointer (some ⟨g1, 0, none⟩))), (5, sA s), (35, .agg ((numsD d).map iA)), (36, iA (k : Nat))] ∧ h = [.cells g1 29 (encDl d)]) ⟨_, _, _, _, ⟨0, _, rfl, Nat.zero_le _, rfl, rfl, rfl⟩, ⟨rfl, rfl, rfl, rfl, trivial⟩, rfl⟩ ?_
    rintro mm L h ⟨k, s, rfl, hk, hs, rfl, rfl⟩
    refine wSeq ?_
    refine wReg ?_  -- region 6
    refine sP rfl rfl rfl (p_icmp rfl rfl rfl rfl) ?_  -- t37 := binOp t36 c
    refine lNil ?_
    refine wSeq ?_
    refine wCond rfl (fun hc2 => ?_) (fun hc2 => ?_)  -- t37
    · have hk5 : k < 4 := by have h := hc2; simp at h; omega
      obtain ⟨n, hx⟩ : ∃ n, (numsD d)[k]? = some n := getL (l := numsD d) hk5
      have hxA : ((numsD d).map iA)[k * 1]? = some (iA n) := by rw [Nat.mul_one, List.getElem?_map, hx]; rfl
      have hsz : s.size ≤ 32 := by rw [hs]; exact numsD_size d k
      have hnz := numS_size n
      refine wSkip ?_
      refine wSeq ?_
      refine wBlock ?_
      refine wSeq ?_
      refine wReg ?_  -- region 7
      refine sP rfl rfl rfl (p_index_arr rfl rfl Try.underlying100 ty3 rfl (i := k) rfl hk5 (.inr ⟨rfl, hxA⟩)) ?_  -- t38 := index t35 t36
      refine sP rfl rfl rfl (pA rfl rfl) ?_  -- t7 := assign t38
      refine lNil ?_
      refine wSeq ?_
      refine wReg ?_  -- region 8
      refine sP rfl rfl rfl (pM rfl rfl) ?_  -- t40 := move t7
      refine sP rfl rfl rfl (p_call rfl (num_p n) ⟨Sub.refl, trivial⟩) ?_  -- t41 := call   -- t40
      refine sP rfl rfl rfl (pMt rfl rfl) ?_  -- t39 := move t41
      refine sP rfl rfl rfl (p_extract rfl rfl rfl) ?_  -- t42 := extract t39
      refine sP rfl rfl rfl (p_extract rfl rfl rfl) ?_  -- t43 := extract t39
      refine sP rfl rfl rfl (pA rfl rfl) ?_  -- t8 := assign t42
      refine sP rfl rfl rfl (pA rfl rfl) ?_  -- t9 := assign t43
      refine lNil ?_
      refine wReg ?_  -- region 9
      refine sP rfl rfl rfl (pM rfl rfl) ?_  -- t44 := move t5
      refine sP rfl rfl rfl (pM rfl rfl) ?_  -- t45 := move t8
      refine sP rfl rfl rfl (p_sadd rfl rfl rfl (by omega)) ?_  -- t46 := binOp t44 t45
      refine sP rfl rfl rfl (pA rfl rfl) ?_  -- t5 := assign t46
      refine lNil ?_
      refine wReg ?_  -- region 10
      refine sP rfl rfl rfl (p_iar rfl rfl rfl rfl) ?_  -- t47 := binOp t36 c
      refine sP rfl rfl rfl (pM rfl rfl) ?_  -- t36 := move t47
      refine lNil ?_
      refine ⟨_, _, [.cells g1 29 (encDl d)], [], ?_, ⟨k + 1, _, rfl, hk5, ?_, rfl, rfl⟩, ⟨rfl, rfl, rfl, avI (wrapI (by omega) (by omega)), trivial⟩, rfl⟩
      · omega
      · rw [hs]; exact (by have h := cat_take numS hx ⟨#[]⟩; rw [nil_app, nil_app] at h; exact h)
    · have hk6 : k = 4 := by have h := hc2; simp at h; omega
      subst hk6
      refine wExit ?_
      refine wSeq ?_
      refine wReg ?_  -- region 11
      refine sP rfl rfl rfl (p_fieldAddr_own rfl rfl fl29_2 ty26 (by decide)) ?_  -- t49 := fieldAddr t1
      refine sP rfl rfl rfl (pLdO1 0 rfl rfl rfl ty26 rfl) ?_  -- t50 := load t49
      refine sP rfl rfl rfl (p_call rfl (fput_p d.2.2.1 ok.nf ok.of) ⟨Sub.refl, trivial⟩) ?_  -- t51 := call   -- t50
      refine sP rfl rfl rfl (pMt rfl rfl) ?_  -- t48 := move t51
      refine sP rfl rfl rfl (p_extract rfl rfl rfl) ?_  -- t52 := extract t48
      refine sP rfl rfl rfl (p_extract rfl rfl rfl) ?_  -- t53 := extract t48
      refine sP rfl rfl rfl (pA rfl rfl) ?_  -- t10 := assign t52
      refine sP rfl rfl rfl (pA rfl rfl) ?_  -- t11 := assign t53
      refine lNil ?_
      refine wSeq ?_
      refine wReg ?_  -- region 12
      refine sP rfl rfl rfl (p_fieldAddr_own rfl rfl fl29_3 ty27 (by decide)) ?_  -- t55 := fieldAddr t1
      refine sP rfl rfl rfl (pLdO1 0 rfl rfl rfl ty27 rfl) ?_  -- t56 := load t55
      refine sP rfl rfl rfl (p_call rfl (dput_p d.2.2.2 ok.ng) ⟨Sub.refl, trivial⟩) ?_  -- t57 := call   -- t56
      refine sP rfl rfl rfl (pMt rfl rfl) ?_  -- t54 := move t57
      refine sP rfl rfl rfl (p_extract rfl rfl rfl) ?_  -- t58 := extract t54
      refine sP rfl rfl rfl (p_extract rfl rfl rfl) ?_  -- t59 := extract t54
      refine sP rfl rfl rfl (pA rfl rfl) ?_  -- t12 := assign t58
      refine sP rfl rfl rfl (pA rfl rfl) ?_  -- t13 := assign t59
      refine lNil ?_
      refine wSeq ?_
      refine wSeq ?_
      refine wReg ?_  -- region 13
      refine sP rfl rfl rfl (pM rfl rfl) ?_  -- t60 := move t10
      refine sP rfl rfl rfl (pM rfl rfl) ?_  -- t61 := move t12
      refine sP rfl rfl rfl (p_build_arr (res := [sA (fputS d.2.2.1), sA (putS d.2.2.2)]) rfl ze103 Try.underlying103 ty9 rfl rfl) ?_  -- t62 := build 
      refine sP rfl rfl rfl (pM rfl rfl) ?_  -- t63 := move c
      refine lNil ?_
      refine wBlock ?_
      refine wLoop (fun mm L h => ∃ k s, mm = 2 - k ∧ k ≤ 2 ∧ s = cat ((numsD d).map numS) ++ cat (((partsD d).take k).map txS) ∧ (∀ j t, j < k → (partsD d)[j]? = some t → t.size ≤ 65536) ∧ s.size ≤ 32 + k * 65544 ∧ L = [(5, sA s), (62, .agg ((partsD d).map sA)), (63, iA (k : Nat))] ∧ h = []) ⟨_, _, _, _, ⟨0, _, rfl, Nat.zero_le _, (by rw [hs]; show _ = _ ++ (⟨#[]⟩ : ByteArray); rw [app_nil]; rfl), fun j t hj => absurd hj (by omega), (by have := numsD_size d 4; rw [hs]; omega), rfl, rfl⟩, ⟨rfl, rfl, rfl, trivial⟩, rfl⟩ ?_
      rintro mm L h ⟨k, s, rfl, hk, hs, hb2, hsz, rfl, rfl⟩
      refine wSeq ?_
      refine wReg ?_  -- region 14
      refine sP rfl rfl rfl (p_icmp rfl rfl rfl rfl) ?_  -- t64 := binOp t63 c
      refine lNil ?_
      refine wSeq ?_
      refine wCond rfl (fun hc3 => ?_) (fun hc3 => ?_)  -- t64
      · have hk5 : k < 2 := by have h := hc3; simp at h; omega
        obtain ⟨t, ht⟩ : ∃ t, (partsD d)[k]? = some t := getL (l := partsD d) hk5
        have hxA : ((partsD d).map sA)[k * 1]? = some (sA t) := by rw [Nat.mul_one, List.getElem?_map, ht]; rfl
        refine wSkip ?_
        refine wSeq ?_
        refine wBlock ?_
        refine wSeq ?_
        refine wReg ?_  -- region 15
        refine sP rfl rfl rfl (p_index_arr rfl rfl Try.underlying103 ty9 rfl (i := k) rfl hk5 (.inr ⟨rfl, hxA⟩)) ?_  -- t65 := index t62 t63
        refine sP rfl rfl rfl (pA rfl rfl) ?_  -- t15 := assign t65
        refine lNil ?_
        refine wSeq ?_
        refine wReg ?_  -- region 16
        refine sP rfl rfl rfl (pM rfl rfl) ?_  -- t67 := move t15
        refine sP rfl rfl rfl (p_call rfl (text_p t (partD_size ok ht)) ⟨Sub.refl, trivial⟩) ?_  -- t68 := call   -- t67
        refine sP rfl rfl rfl (pMt rfl rfl) ?_  -- t66 := move t68
        refine sP rfl rfl rfl (p_extract rfl rfl rfl) ?_  -- t69 := extract t66
        refine sP rfl rfl rfl (p_extract rfl rfl rfl) ?_  -- t70 := extract t66
        refine sP rfl rfl rfl (pA rfl rfl) ?_  -- t16 := assign t69
        refine sP rfl rfl rfl (pA rfl rfl) ?_  -- t17 := assign t70
        refine lNil ?_
        refine wSeq ?_
        refine wSeq ?_
        refine wReg ?_  -- region 17
        refine sP rfl rfl rfl (pM rfl rfl) ?_  -- t71 := move t17
        refine sP rfl rfl rfl (p_icmp rfl rfl rfl rfl) ?_  -- t72 := binOp t71 c
        refine lNil ?_
        refine wCond rfl (fun hc4 => ?_) (fun hc4 => ?_)  -- t72
        · refine wSeq ?_
          refine wReg ?_  -- region 18
          refine sP rfl rfl rfl (pM rfl rfl) ?_  -- t73 := move t17
          refine sP rfl rfl rfl (pA rfl rfl) ?_  -- t2 := assign c
          refine sP rfl rfl rfl (pA rfl rfl) ?_  -- t3 := assign t73
          refine lNil ?_
          refine wRet ?_
          have hne : txE t ≠ 0 := by simpa using hc4
          obtain ⟨hl, h3⟩ := txE_yes hne
          have he := dputE_long hz ht hl
          exact rgs2 (rg_tmp (gives_sub (Sub.of_eq (avS (dputS_err (by rw [he]; decide)).symm)))) (rg_tmp (gives_sub (Sub.of_eq (avI (by rw [he, h3])))))
        · have hto2 : t.size ≤ 65536 := txE_no (by simpa using hc4)
          have hto3 := txS_size t
          refine wSkip ?_
          refine wReg ?_  -- region 19
          refine sP rfl rfl rfl (pM rfl rfl) ?_  -- t74 := move t5
          refine sP rfl rfl rfl (pM rfl rfl) ?_  -- t75 := move t16
          refine sP rfl rfl rfl (p_sadd rfl rfl rfl (by omega)) ?_  -- t76 := binOp t74 t75
          refine sP rfl rfl rfl (pA rfl rfl) ?_  -- t5 := assign t76
          refine lNil ?_
          refine wReg ?_  -- region 20
          refine sP rfl rfl rfl (p_iar rfl rfl rfl rfl) ?_  -- t77 := binOp t63 c
          refine sP rfl rfl rfl (pM rfl rfl) ?_  -- t63 := move t77
          refine lNil ?_
          have hto : t.size ≤ 65536 := txE_no (by simpa using hc4)
          refine ⟨_, _, [], [], ?_, ⟨k + 1, _, rfl, hk5, ?_, fun j t2 hj hj2 => ?_, ?_, rfl, rfl⟩, ⟨rfl, rfl, avI (wrapI (by omega) (by omega)), trivial⟩, rfl⟩
          · omega
          · rw [hs]; exact cat_take txS ht _
          · rcases Nat.lt_or_ge j k with g | g
            · exact hb2 j t2 g hj2
            · obtain rfl : j = k := by omega
              rw [ht] at hj2; injection hj2 with hj2; rw [← hj2]; exact hto
          · rw [ByteArray.size_append]; have := txS_size t; omega
      · have hk7 : k = 2 := by have h := hc3; simp at h; omega
        subst hk7
        refine wExit ?_
        refine wSeq ?_
        refine wReg ?_  -- region 21
        refine sP rfl rfl rfl (pM rfl rfl) ?_  -- t78 := move t5
        refine sP rfl rfl rfl (pA rfl rfl) ?_  -- t2 := assign t78
        refine sP rfl rfl rfl (pA rfl rfl) ?_  -- t3 := assign c
        refine lNil ?_
        refine wRet ?_
        have he : dputE d = 0 := dputE_ok hz fun j t ht => hb2 j t (by have := (List.getElem?_eq_some_iff.1 ht).1; exact this) ht
        have hS : s = dputS d := by rw [dputS_ok he, hs]; rfl
        exact rgs2 (rg_tmp (gives_sub (Sub.of_eq (avS hS)))) (rg_tmp (gives_sub (Sub.of_eq (avI he.symm))))

def rdrC (q p : Nat) (e : Int) : HObj := .cells q 121 [nP p, iA e]
def rdK (st : ByteArray × Int) : Nat → ByteArray × Int
  | 0 => st
  | m + 1 => (rdN (rdK st m)).2
theorem rdK_size (st : ByteArray × Int) : ∀ m, (rdK st m).1.size ≤ st.1.size
  | 0 => Nat.le_refl _
  | m + 1 => Nat.le_trans (rdN_size (rdK st m)) (rdK_size st m)
def headD (st : ByteArray × Int) : DeltaT := (((rdN st).1, (rdN (rF1 st)).1), ((rdN (rF2 st)).1, (rdN (rF3 st)).1, (rdN st).1), [], [])
def HdR (q p : Nat) (e : Int) (a : AV) (st : ByteArray × Int) (av : AV) (h' : List HObj) : Prop := av = a ∧ h' = [rdrC q p e, rdO p st]
theorem HdR.two {q p : Nat} {e : Int} {a : AV} {st : ByteArray × Int} {av : AV} {h' : List HObj} (h : HdR q p e a st av h') : ∃ x y, h' = [x, y] := ⟨_, _, h.2⟩
theorem HdR.pq {q p : Nat} {e : Int} {a : AV} {st : ByteArray × Int} {av : AV} {x y : HObj} (h : HdR q p e a st av [x, y]) : av = a ∧ x = rdrC q p e ∧ y = rdO p st := ⟨h.1, by simpa using h.2⟩

set_option maxRecDepth 100000 in
theorem dhead_m (q p : Nat) (e : Int) (st : ByteArray × Int) (hs : st.1.size < 9223372036854775807) : MFn Try.prog False 81 [nP q] [rdrC q p e, rdO p st] (HdR q p e (dlA (headD st)) (rF4 st)) := by
  refine mfn Try.func81 rfl (by kernel_rfl) 33 rfl _ rfl (Nat.le_of_ble_eq_true rfl) (fun X w0 => ?_)
  refine wSeq ?_
  refine wReg ?_  -- region 0
  refine sAlloc rfl rfl rfl rfl ze29 (fun g2 => ?_)  -- t2 := alloc 
  refine lNil ?_
  refine wSeq ?_
  refine wDrawA 24 23 3 29 [.int .i64 0, .int .i64 0, .int .i64 0, .int .i64 0, .int .i64 0, .slice none 0 0, .slice none 0 0] (by kernel_rfl) (by kernel_rfl) (fun m => [rdrC q p e, rdO p (rdK st m), .cells g2 29 [iA 0, iA 0, iA 0, iA 0, iA 0, .x (.slice none 0 0), .x (.slice none 0 0)]]) [4, 9, 15, 20] (by kernel_rfl) (by kernel_rfl) rfl rfl (fun m _ => rfl) ?_  -- region 1
  refine dwP rfl rfl rfl rfl rfl (fun k al => (pM rfl rfl)) ?_  -- t4 := move t0
  refine dwP rfl rfl rfl rfl rfl (fun k al => (p_nilCheck rfl rfl)) ?_  -- t5 := nilCheck t4
  refine dwP rfl rfl rfl rfl rfl (fun k al => (p_fieldAddr_own rfl rfl fl121_0 ty118 (by decide))) ?_  -- t6 := fieldAddr t5
  refine dwP rfl rfl rfl rfl rfl (fun k al => (pLdO1 0 rfl rfl rfl ty118 rfl)) ?_  -- t7 := load t6
  refine dwM 0 rfl rfl rfl rfl rfl (fun al => mstep_mid [rdrC q p e] ([.cells g2 29 [iA 0, iA 0, iA 0, iA 0, iA 0, .x (.slice none 0 0), .x (.slice none 0 0)]] ++ al) rfl (rdnum_m p (rdK st 0) (by have := rdK_size st 0; omega)) (by exact ⟨Sub.refl, trivial⟩) (fun _ _ h => h)) ?_  -- t8 := call   -- t7
  refine dwP rfl rfl rfl rfl rfl (fun k al => (pM rfl rfl)) ?_  -- t9 := move t0
  refine dwP rfl rfl rfl rfl rfl (fun k al => (p_nilCheck rfl rfl)) ?_  -- t10 := nilCheck t9
  refine dwP rfl rfl rfl rfl rfl (fun k al => (p_fieldAddr_own rfl rfl fl121_0 ty118 (by decide))) ?_  -- t11 := fieldAddr t10
  refine dwP rfl rfl rfl rfl rfl (fun k al => (pLdO1 0 rfl rfl rfl ty118 rfl)) ?_  -- t12 := load t11
  refine dwM 1 rfl rfl rfl rfl rfl (fun al => mstep_mid [rdrC q p e] ([.cells g2 29 [iA 0, iA 0, iA 0, iA 0, iA 0, .x (.slice none 0 0), .x (.slice none 0 0)]] ++ al) rfl (rdnum_m p (rdK st 1) (by have := rdK_size st 1; omega)) (by exact ⟨Sub.refl, trivial⟩) (fun _ _ h => h)) ?_  -- t13 := call   -- t12
  refine dwP rfl rfl rfl rfl rfl (fun k al => (p_build (res := [iA ((rdN st).1 : Nat), iA ((rdN (rF1 st)).1 : Nat)]) rfl ze23 pl23 rfl rfl)) ?_  -- t14 := build 
  refine dwP rfl rfl rfl rfl rfl (fun k al => (pM rfl rfl)) ?_  -- t15 := move t0
  refine dwP rfl rfl rfl rfl rfl (fun k al => (p_nilCheck rfl rfl)) ?_  -- t16 := nilCheck t15
  refine dwP rfl rfl rfl rfl rfl (fun k al => (p_fieldAddr_own rfl rfl fl121_0 ty118 (by decide))) ?_  -- t17 := fieldAddr t16
  refine dwP rfl rfl rfl rfl rfl (fun k al => (pLdO1 0 rfl rfl rfl ty118 rfl)) ?_  -- t18 := load t17
  refine dwM 2 rfl rfl rfl rfl rfl (fun al => mstep_mid [rdrC q p e] ([.cells g2 29 [iA 0, iA 0, iA 0, iA 0, iA 0, .x (.slice none 0 0), .x (.slice none 0 0)]] ++ al) rfl (rdnum_m p (rdK st 2) (by have := rdK_size st 2; omega)) (by exact ⟨Sub.refl, trivial⟩) (fun _ _ h => h)) ?_  -- t19 := call   -- t18
  refine dwP rfl rfl rfl rfl rfl (fun k al => (pM rfl rfl)) ?_  -- t20 := move t0
  refine dwP rfl rfl rfl rfl rfl (fun k al => (p_nilCheck rfl rfl)) ?_  -- t21 := nilCheck t20
  refine dwP rfl rfl rfl rfl rfl (fun k al => (p_fieldAddr_own rfl rfl fl121_0 ty118 (by decide))) ?_  -- t22 := fieldAddr t21
  refine dwP rfl rfl rfl rfl rfl (fun k al => (pLdO1 0 rfl rfl rfl ty118 rfl)) ?_  -- t23 := load t22
  refine dwM 3 rfl rfl rfl rfl rfl (fun al => mstep_mid [rdrC q p e] ([.cells g2 29 [iA 0, iA 0, iA 0, iA 0, iA 0, .x (.slice none 0 0), .x (.slice none 0 0)]] ++ al) rfl (rdnum_m p (rdK st 3) (by have := rdK_size st 3; omega)) (by exact ⟨Sub.refl, trivial⟩) (fun _ _ h => h)) ?_  -- t24 := call   -- t23
  refine dwP rfl rfl rfl rfl rfl (fun k al => (p_build (res := [iA ((rdN (rF2 st)).1 : Nat), iA ((rdN (rF3 st)).1 : Nat), iA 0]) rfl ze25 pl25 rfl rfl)) ?_  -- t25 := build 
  refine dwP rfl rfl rfl rfl rfl (fun k al => (p_build (res := [iA ((rdN st).1 : Nat), iA ((rdN (rF1 st)).1 : Nat), iA ((rdN (rF2 st)).1 : Nat), iA ((rdN (rF3 st)).1 : Nat), iA 0, .x (.slice none 0 0), .x (.slice none 0 0)]) rfl ze29 pl29 rfl rfl)) ?_  -- t26 := build 
  refine dwA rfl rfl rfl rfl rfl ze29 ?_  -- t3 := alloc 
  refine dwNil (fun g3 => ?_)
  refine sStore 3 rfl rfl rfl rfl rfl ty29 rfl rfl rfl (Nat.le_of_ble_eq_true rfl) ?_  -- t := store t3 t26
  refine lNil ?_
  refine wSeq ?_
  refine wReg ?_  -- region 2
  refine sP rfl rfl rfl (p_fieldAddr_own rfl rfl fl29_0 ty23 (by decide)) ?_  -- t27 := fieldAddr t3
  refine sP rfl rfl rfl (p_fieldAddr_own rfl rfl fl23_0 ty3 (by decide)) ?_  -- t28 := fieldAddr t27
  refine sP rfl rfl rfl (pLdO1 3 rfl rfl rfl ty3 rfl) ?_  -- t29 := load t28
  refine sP rfl rfl rfl (p_fieldAddr_own rfl rfl fl29_1 ty25 (by decide)) ?_  -- t30 := fieldAddr t3
  refine sP rfl rfl rfl (p_fieldAddr_own rfl rfl fl25_2 ty3 (by decide)) ?_  -- t31 := fieldAddr t30
  refine sStore1 3 rfl rfl rfl rfl rfl ty3 rfl rfl (Nat.le_of_ble_eq_true rfl) ?_  -- t := store t31 t29
  refine lNil ?_
  refine wSeq ?_
  refine wReg ?_  -- region 3
  refine sP rfl rfl rfl (pLdW 3 rfl rfl rfl ty29 rfl) ?_  -- t32 := load t3
  refine sStore 2 rfl rfl rfl rfl rfl ty29 rfl rfl rfl (Nat.le_of_ble_eq_true rfl) ?_  -- t := store t2 t32
  refine lNil ?_
  refine wRet ?_
  exact ⟨_, [rdrC q p e, rdO p (rF4 st)], _, rfl, ⟨rfl, rfl⟩, rgm_cell rfl rfl (List.mem_of_getElem? (i := 2) rfl) ty29 rfl (Sub.agg ⟨Sub.refl, Sub.refl, Sub.refl, Sub.refl, Sub.refl, Sub.nil_, Sub.nil_, trivial⟩)⟩
end Go.Proofs.Ytmhkalalcmkpbaa

namespace Go.Proofs.Ytmhkalalcmkpbaa
open Go Go.RowKit
set_option linter.unusedVariables false
set_option linter.unusedSimpArgs false

/-- How far a reading has come: what is read, and the error. -/
def rD0 (s : ByteArray) : DeltaT × Int := (headD (s, 0), doneE (dBt s).2)
def rD1 (s : ByteArray) : DeltaT × Int := if (rD0 s).2 = 0 then (((headD (s, 0)).1, (headD (s, 0)).2.1, freadL (dAt s).1, []), freadE (dAt s).1) else rD0 s
def rD2 (s : ByteArray) : DeltaT × Int := if (rD1 s).2 = 0 then (((rD1 s).1.1, (rD1 s).1.2.1, (rD1 s).1.2.2.1, (readD (dBt s).1).1), (readD (dBt s).1).2) else rD1 s
def rD3 (s : ByteArray) : DeltaT × Int := if (rD2 s).2 = 0 then ((rD2 s).1, deltaE (rD2 s).1) else rD2 s
theorem rD_end (s : ByteArray) : (rD3 s).2 = dreadE s ∧ (dreadE s = 0 → (rD3 s).1 = dreadD s) := by
  unfold dreadE
  by_cases h0 : doneE (dBt s).2 = 0
  · have e1 : rD1 s = (((headD (s, 0)).1, (headD (s, 0)).2.1, freadL (dAt s).1, []), freadE (dAt s).1) := if_pos h0
    rw [if_neg (by simpa using h0)]
    by_cases h1 : freadE (dAt s).1 = 0
    · have e2 : rD2 s = (((rD1 s).1.1, (rD1 s).1.2.1, (rD1 s).1.2.2.1, (readD (dBt s).1).1), (readD (dBt s).1).2) := by unfold rD2; rw [e1]; exact if_pos h1
      rw [e1] at e2
      have e2' : rD2 s = (dreadD s, (readD (dBt s).1).2) := e2
      rw [if_neg (by simpa using h1)]
      by_cases h2 : (readD (dBt s).1).2 = 0
      · have e3 : rD3 s = (dreadD s, deltaE (dreadD s)) := by unfold rD3; rw [e2']; exact if_pos h2
        rw [if_neg (by simpa using h2), e3]
        exact ⟨rfl, fun _ => rfl⟩
      · have e3 : rD3 s = rD2 s := by unfold rD3; rw [e2']; exact if_neg h2
        rw [if_pos h2, e3, e2']
        exact ⟨rfl, fun g => absurd g h2⟩
    · have e2 : rD2 s = rD1 s := by unfold rD2; rw [e1]; exact if_neg h1
      have e3 : rD3 s = rD2 s := by unfold rD3; rw [e2, e1]; exact if_neg h1
      rw [if_pos h1, e3, e2, e1]
      exact ⟨rfl, fun g => absurd g h1⟩
  · have e1 : rD1 s = rD0 s := if_neg h0
    have e2 : rD2 s = rD1 s := by unfold rD2; rw [e1]; exact if_neg h0
    have e3 : rD3 s = rD2 s := by unfold rD3; rw [e2, e1]; exact if_neg h0
    rw [if_pos h0, e3, e2, e1]
    exact ⟨rfl, fun g => absurd g h0⟩
theorem dAt_size (s : ByteArray) : (dAt s).1.size ≤ 65536 ∧ (dAt s).2.1.size ≤ s.size := by
  obtain ⟨z1, z2, z3, z4, z5, z6, z7⟩ := rF7_size (s, 0)
  refine ⟨rdT_text _, Nat.le_trans (rdT_size (rF4 (s, 0))) z4⟩
theorem dBt_size (s : ByteArray) : (dBt s).1.size ≤ 65536 ∧ (dBt s).2.1.size ≤ s.size := ⟨rdT_text _, Nat.le_trans (rdT_size (dAt s).2) (dAt_size s).2⟩
theorem okD_1 {s : ByteArray} {d : DeltaT} {e : Int} (h : (d, e) = rD1 s) (he : e = 0) : d.1 = (headD (s, 0)).1 ∧ d.2.1 = (headD (s, 0)).2.1 ∧ d.2.2.1 = freadL (dAt s).1 := by
  unfold rD1 at h
  by_cases h0 : (rD0 s).2 = 0
  · rw [if_pos h0] at h; cases h; exact ⟨rfl, rfl, rfl⟩
  · rw [if_neg h0] at h; have : e = (rD0 s).2 := congrArg Prod.snd h; exact absurd (this ▸ he) h0
theorem okD_2 {s : ByteArray} {d : DeltaT} {e : Int} (h : (d, e) = rD2 s) (he : e = 0) : OkD d := by
  unfold rD2 at h
  by_cases h1 : (rD1 s).2 = 0
  · rw [if_pos h1] at h
    have h0 : (rD0 s).2 = 0 := by
      rcases Decidable.em ((rD0 s).2 = 0) with g | g
      · exact g
      · unfold rD1 at h1; rw [if_neg g] at h1; exact absurd h1 g
    have e1 : rD1 s = (((headD (s, 0)).1, (headD (s, 0)).2.1, freadL (dAt s).1, []), freadE (dAt s).1) := if_pos h0
    rw [e1] at h
    cases h
    exact ⟨freadL_len _, by have := readD_len (dBt s).1; show (readD (dBt s).1).1.length < 1000000; omega, freadL_ok_all _⟩
  · rw [if_neg h1] at h; have : e = (rD1 s).2 := congrArg Prod.snd h; exact absurd (this ▸ he) h1
theorem avDl {a b : DeltaT} (h : a = b) : dlA a = dlA b := by rw [h]


def rTx (s : ByteArray) : Nat → ByteArray × Int
  | 0 => rF4 (s, 0)
  | 1 => (dAt s).2
  | _ => (dBt s).2
theorem rTx_size (s : ByteArray) : ∀ m, (rTx s m).1.size ≤ s.size
  | 0 => by obtain ⟨z1, z2, z3, z4, z5, z6, z7⟩ := rF7_size (s, 0); exact z4
  | 1 => (dAt_size s).2
  | _ + 2 => (dBt_size s).2

set_option maxRecDepth 100000 in
theorem deread_p (s : ByteArray) (hs : s.size < 9223372036854775807) : PFn Try.prog False 20 [sA s] (.tup [dlA (dreadT s), iA (dreadE s)]) := by
  refine pfn Try.func20 rfl (by kernel_rfl) 81 rfl _ rfl (Nat.le_of_ble_eq_true rfl) (fun X w0 => ?_)
  refine wSeq ?_
  refine wReg ?_  -- region 0
  refine sAlloc rfl rfl rfl rfl ze29 (fun g2 => ?_)  -- t2 := alloc 
  refine sP rfl rfl rfl (pA rfl rfl) ?_  -- t3 := assign c
  refine lNil ?_
  refine wSeq ?_
  refine wReg ?_  -- region 1
  refine sP rfl rfl rfl (pM rfl rfl) ?_  -- t8 := move t0
  refine sM0 rfl rfl rfl rfl (new_m s) ⟨Sub.refl, trivial⟩ (fun _ _ ⟨_, h⟩ => h.one) (fun av q hr => ?_)
  obtain ⟨p, hr⟩ := hr
  obtain ⟨rfl, rfl⟩ := hr.pq
  refine sP rfl rfl rfl (p_build (res := [nP p, iA 0]) rfl ze121 pl121 rfl rfl) ?_  -- t10 := build 
  refine sBox rfl rfl rfl rfl rfl (fun g11 => ?_)  -- t11 := box t10
  refine sP rfl rfl rfl (pA rfl rfl) ?_  -- t4 := assign t11
  refine lNil ?_
  refine wSeq ?_
  refine wReg ?_  -- region 2
  refine sP rfl rfl rfl (pM rfl rfl) ?_  -- t12 := move t4
  refine sM2 2 1 (by decide) rfl rfl rfl rfl (dhead_m g11 p 0 (s, 0) hs) ⟨Sub.refl, trivial⟩ (fun _ _ h => h.two) (fun av q1 q2 hr => ?_)
  obtain ⟨rfl, rfl, rfl⟩ := hr.pq
  refine sAlloc rfl rfl rfl rfl ze29 (fun g5 => ?_)  -- t5 := alloc 
  refine sStore 3 rfl rfl rfl rfl rfl ty29 rfl rfl rfl (Nat.le_of_ble_eq_true rfl) ?_  -- t := store t5 t13
  refine lNil ?_
  refine wSeq ?_
  refine wDrawM 12 (by kernel_rfl) (by kernel_rfl) (fun m => [.cells g2 29 [iA 0, iA 0, iA 0, iA 0, iA 0, .x (.slice none 0 0), .x (.slice none 0 0)], rdO p (rTx s m), rdrC g11 p 0, .cells g5 29 (encDl (headD (s, 0)))]) [4, 9] (by kernel_rfl) rfl (fun m _ => rfl) ?_  -- region 3
  refine dwP rfl rfl rfl rfl rfl (fun k al => (pM rfl rfl)) ?_  -- t14 := move t4
  refine dwP rfl rfl rfl rfl rfl (fun k al => (p_nilCheck rfl rfl)) ?_  -- t15 := nilCheck t14
  refine dwP rfl rfl rfl rfl rfl (fun k al => (p_fieldAddr_own rfl rfl fl121_0 ty118 (by decide))) ?_  -- t16 := fieldAddr t15
  refine dwP rfl rfl rfl rfl rfl (fun k al => (pLdO1 2 rfl rfl rfl ty118 rfl)) ?_  -- t17 := load t16
  refine dwM 0 rfl rfl rfl rfl rfl (fun al => mstep_mid [.cells g2 29 [iA 0, iA 0, iA 0, iA 0, iA 0, .x (.slice none 0 0), .x (.slice none 0 0)]] ([rdrC g11 p 0, .cells g5 29 (encDl (headD (s, 0)))] ++ al) rfl (rdtext_m p (rTx s 0) (Nat.lt_of_le_of_lt (rTx_size s 0) hs)) (by exact ⟨Sub.refl, trivial⟩) (fun _ _ h => h)) ?_  -- t18 := call   -- t17
  refine dwP rfl rfl rfl rfl rfl (fun k al => (pM rfl rfl)) ?_  -- t19 := move t4
  refine dwP rfl rfl rfl rfl rfl (fun k al => (p_nilCheck rfl rfl)) ?_  -- t20 := nilCheck t19
  refine dwP rfl rfl rfl rfl rfl (fun k al => (p_fieldAddr_own rfl rfl fl121_0 ty118 (by decide))) ?_  -- t21 := fieldAddr t20
  refine dwP rfl rfl rfl rfl rfl (fun k al => (pLdO1 2 rfl rfl rfl ty118 rfl)) ?_  -- t22 := load t21
  refine dwM 1 rfl rfl rfl rfl rfl (fun al => mstep_mid [.cells g2 29 [iA 0, iA 0, iA 0, iA 0, iA 0, .x (.slice none 0 0), .x (.slice none 0 0)]] ([rdrC g11 p 0, .cells g5 29 (encDl (headD (s, 0)))] ++ al) rfl (rdtext_m p (rTx s 1) (Nat.lt_of_le_of_lt (rTx_size s 1) hs)) (by exact ⟨Sub.refl, trivial⟩) (fun _ _ h => h)) ?_  -- t23 := call   -- t22
  refine dwP rfl rfl rfl rfl rfl (fun k al => (pA rfl rfl)) ?_  -- t6 := assign t18
  refine dwP rfl rfl rfl rfl rfl (fun k al => (pA rfl rfl)) ?_  -- t7 := assign t23
  refine dwNil ?_
  refine lNil ?_
  refine wSeq ?_
  refine wReg ?_  -- region 4
  refine sP rfl rfl rfl (pM rfl rfl) ?_  -- t24 := move t4
  refine sP rfl rfl rfl (pM rfl rfl) ?_  -- t25 := move t4
  refine sP rfl rfl rfl (p_nilCheck rfl rfl) ?_  -- t26 := nilCheck t25
  refine sP rfl rfl rfl (p_fieldAddr_own rfl rfl fl121_0 ty118 (by decide)) ?_  -- t27 := fieldAddr t26
  refine sP rfl rfl rfl (pLdO1 2 rfl rfl rfl ty118 rfl) ?_  -- t28 := load t27
  refine sM1 1 rfl rfl rfl (rddone_m p (dBt s).2) ⟨Sub.refl, trivial⟩ (fun _ _ h => h.one) (fun av q hr => ?_)
  obtain ⟨rfl, rfl⟩ := hr.pq
  refine sP rfl rfl rfl (p_nilCheck rfl rfl) ?_  -- t30 := nilCheck t24
  refine sP rfl rfl rfl (p_fieldAddr_own rfl rfl fl121_1 ty32 (by decide)) ?_  -- t31 := fieldAddr t30
  refine sStore1 2 rfl rfl rfl rfl rfl ty32 rfl rfl (Nat.le_of_ble_eq_true rfl) ?_  -- t := store t31 t29
  refine lNil ?_
  refine wCut (fun L h => ∃ d e, (d, e) = rD1 s ∧ L = [(2, nP g2), (4, nP g11), (5, nP g5), (6, sA (dAt s).1), (7, sA (dBt s).1)] ∧ h = [.cells g2 29 [iA 0, iA 0, iA 0, iA 0, iA 0, .x (.slice none 0 0), .x (.slice none 0 0)], rdO p (dBt s).2, rdrC g11 p e, .cells g5 29 (encDl d)]) ?_ ?_
  · refine wSeq ?_
    refine wReg ?_  -- region 5
    refine sP rfl rfl rfl (pM rfl rfl) ?_  -- t32 := move t4
    refine sP rfl rfl rfl (p_nilCheck rfl rfl) ?_  -- t33 := nilCheck t32
    refine sP rfl rfl rfl (p_fieldAddr_own rfl rfl fl121_1 ty32 (by decide)) ?_  -- t34 := fieldAddr t33
    refine sP rfl rfl rfl (pLdO1 2 rfl rfl rfl ty32 rfl) ?_  -- t35 := load t34
    refine sP rfl rfl rfl (p_icmp rfl rfl rfl rfl) ?_  -- t36 := binOp t35 c
    refine lNil ?_
    refine wCond rfl (fun hc1 => ?_) (fun hc1 => ?_)  -- t36
    · refine wReg ?_  -- region 6
      refine sP rfl rfl rfl (pM rfl rfl) ?_  -- t38 := move t4
      refine sP rfl rfl rfl (pM rfl rfl) ?_  -- t39 := move t6
      refine sP rfl rfl rfl (p_call rfl (fread_p (dAt s).1 (by have := (dAt_size s).1; omega)) ⟨Sub.refl, trivial⟩) ?_  -- t40 := call   -- t39
      refine sP rfl rfl rfl (pMt rfl rfl) ?_  -- t37 := move t40
      refine sP rfl rfl rfl (p_extract rfl rfl rfl) ?_  -- t41 := extract t37
      refine sP rfl rfl rfl (p_extract rfl rfl rfl) ?_  -- t42 := extract t37
      refine sP rfl rfl rfl (p_fieldAddr_own rfl rfl fl29_2 ty26 (by decide)) ?_  -- t43 := fieldAddr t5
      refine sStore1 3 rfl rfl rfl rfl rfl ty26 rfl rfl (Nat.le_of_ble_eq_true rfl) ?_  -- t := store t43 t41
      refine sP rfl rfl rfl (p_nilCheck rfl rfl) ?_  -- t44 := nilCheck t38
      refine sP rfl rfl rfl (p_fieldAddr_own rfl rfl fl121_1 ty32 (by decide)) ?_  -- t45 := fieldAddr t44
      refine sStore1 2 rfl rfl rfl rfl rfl ty32 rfl rfl (Nat.le_of_ble_eq_true rfl) ?_  -- t := store t45 t42
      refine lNil ?_
      have k0 : (rD0 s).2 = 0 := by show doneE (dBt s).2 = 0; simpa using hc1
      exact ⟨_, [.cells g2 29 [iA 0, iA 0, iA 0, iA 0, iA 0, .x (.slice none 0 0), .x (.slice none 0 0)], rdO p (dBt s).2, rdrC g11 p (freadE (dAt s).1), .cells g5 29 (encDl ((headD (s, 0)).1, (headD (s, 0)).2.1, freadL (dAt s).1, []))], [], ⟨_, _, (by unfold rD1; exact (if_pos k0).symm), rfl, rfl⟩, ⟨rfl, rfl, rfl, rfl, rfl, trivial⟩, rfl⟩
    · refine wSkip ?_
      have k0 : (rD0 s).2 ≠ 0 := by show doneE (dBt s).2 ≠ 0; simpa using hc1
      exact ⟨_, [.cells g2 29 [iA 0, iA 0, iA 0, iA 0, iA 0, .x (.slice none 0 0), .x (.slice none 0 0)], rdO p (dBt s).2, rdrC g11 p (doneE (dBt s).2), .cells g5 29 (encDl (headD (s, 0)))], [], ⟨_, _, (by unfold rD1; exact (if_neg k0).symm), rfl, rfl⟩, ⟨rfl, rfl, rfl, rfl, rfl, trivial⟩, rfl⟩
  · rintro L h ⟨d, e, hde, rfl, rfl⟩
    refine wCut (fun L h => ∃ d e, (d, e) = rD2 s ∧ L = [(2, nP g2), (4, nP g11), (5, nP g5), (6, sA (dAt s).1), (7, sA (dBt s).1)] ∧ h = [.cells g2 29 [iA 0, iA 0, iA 0, iA 0, iA 0, .x (.slice none 0 0), .x (.slice none 0 0)], rdO p (dBt s).2, rdrC g11 p e, .cells g5 29 (encDl d)]) ?_ ?_
    · refine wSeq ?_
      refine wReg ?_  -- region 7
      refine sP rfl rfl rfl (pM rfl rfl) ?_  -- t46 := move t4
      refine sP rfl rfl rfl (p_nilCheck rfl rfl) ?_  -- t47 := nilCheck t46
      refine sP rfl rfl rfl (p_fieldAddr_own rfl rfl fl121_1 ty32 (by decide)) ?_  -- t48 := fieldAddr t47
      refine sP rfl rfl rfl (pLdO1 2 rfl rfl rfl ty32 rfl) ?_  -- t49 := load t48
      refine sP rfl rfl rfl (p_icmp rfl rfl rfl rfl) ?_  -- t50 := binOp t49 c
      refine lNil ?_
      refine wCond rfl (fun hc2 => ?_) (fun hc2 => ?_)  -- t50
      · refine wReg ?_  -- region 8
        refine sP rfl rfl rfl (pM rfl rfl) ?_  -- t52 := move t4
        refine sP rfl rfl rfl (pM rfl rfl) ?_  -- t53 := move t7
        refine sP rfl rfl rfl (p_call rfl (dread_p (dBt s).1 (by have := (dBt_size s).1; omega)) ⟨Sub.refl, trivial⟩) ?_  -- t54 := call   -- t53
        refine sP rfl rfl rfl (pMt rfl rfl) ?_  -- t51 := move t54
        refine sP rfl rfl rfl (p_extract rfl rfl rfl) ?_  -- t55 := extract t51
        refine sP rfl rfl rfl (p_extract rfl rfl rfl) ?_  -- t56 := extract t51
        refine sP rfl rfl rfl (p_fieldAddr_own rfl rfl fl29_3 ty27 (by decide)) ?_  -- t57 := fieldAddr t5
        refine sStore1 3 rfl rfl rfl rfl rfl ty27 rfl rfl (Nat.le_of_ble_eq_true rfl) ?_  -- t := store t57 t55
        refine sP rfl rfl rfl (p_nilCheck rfl rfl) ?_  -- t58 := nilCheck t52
        refine sP rfl rfl rfl (p_fieldAddr_own rfl rfl fl121_1 ty32 (by decide)) ?_  -- t59 := fieldAddr t58
        refine sStore1 2 rfl rfl rfl rfl rfl ty32 rfl rfl (Nat.le_of_ble_eq_true rfl) ?_  -- t := store t59 t56
        refine lNil ?_
        have k0 : (rD1 s).2 = 0 := by rw [← hde]; simpa using hc2
        exact ⟨_, [.cells g2 29 [iA 0, iA 0, iA 0, iA 0, iA 0, .x (.slice none 0 0), .x (.slice none 0 0)], rdO p (dBt s).2, rdrC g11 p (readD (dBt s).1).2, .cells g5 29 (encDl (d.1, d.2.1, d.2.2.1, (readD (dBt s).1).1))], [], ⟨_, _, (by unfold rD2; rw [← hde]; rw [← hde] at k0; exact (if_pos k0).symm), rfl, rfl⟩, ⟨rfl, rfl, rfl, rfl, rfl, trivial⟩, rfl⟩
      · refine wSkip ?_
        have k0 : (rD1 s).2 ≠ 0 := by rw [← hde]; simpa using hc2
        exact ⟨_, [.cells g2 29 [iA 0, iA 0, iA 0, iA 0, iA 0, .x (.slice none 0 0), .x (.slice none 0 0)], rdO p (dBt s).2, rdrC g11 p e, .cells g5 29 (encDl d)], [], ⟨_, _, (by unfold rD2; exact hde.trans (if_neg k0).symm), rfl, rfl⟩, ⟨rfl, rfl, rfl, rfl, rfl, trivial⟩, rfl⟩
    · rintro L h ⟨d, e, hde, rfl, rfl⟩
      refine wCut (fun L h => ∃ d e, (d, e) = rD3 s ∧ L = [(2, nP g2), (4, nP g11), (5, nP g5), (6, sA (dAt s).1), (7, sA (dBt s).1)] ∧ h = [.cells g2 29 [iA 0, iA 0, iA 0, iA 0, iA 0, .x (.slice none 0 0), .x (.slice none 0 0)], rdO p (dBt s).2, rdrC g11 p e, .cells g5 29 (encDl d)]) ?_ ?_
      · refine wSeq ?_
        refine wReg ?_  -- region 9
        refine sP rfl rfl rfl (pM rfl rfl) ?_  -- t60 := move t4
        refine sP rfl rfl rfl (p_nilCheck rfl rfl) ?_  -- t61 := nilCheck t60
        refine sP rfl rfl rfl (p_fieldAddr_own rfl rfl fl121_1 ty32 (by decide)) ?_  -- t62 := fieldAddr t61
        refine sP rfl rfl rfl (pLdO1 2 rfl rfl rfl ty32 rfl) ?_  -- t63 := load t62
        refine sP rfl rfl rfl (p_icmp rfl rfl rfl rfl) ?_  -- t64 := binOp t63 c
        refine lNil ?_
        refine wCond rfl (fun hc3 => ?_) (fun hc3 => ?_)  -- t64
        · refine wReg ?_  -- region 10
          refine sP rfl rfl rfl (pM rfl rfl) ?_  -- t65 := move t4
          refine sP rfl rfl rfl (pLdW 3 rfl rfl rfl ty29 rfl) ?_  -- t66 := load t5
          refine sP rfl rfl rfl (p_call rfl (delta_p d (okD_2 hde (by simpa using hc3))) ⟨Sub.refl, trivial⟩) ?_  -- t67 := call   -- t66
          refine sP rfl rfl rfl (p_nilCheck rfl rfl) ?_  -- t68 := nilCheck t65
          refine sP rfl rfl rfl (p_fieldAddr_own rfl rfl fl121_1 ty32 (by decide)) ?_  -- t69 := fieldAddr t68
          refine sStore1 2 rfl rfl rfl rfl rfl ty32 rfl rfl (Nat.le_of_ble_eq_true rfl) ?_  -- t := store t69 t67
          refine lNil ?_
          have k0 : (rD2 s).2 = 0 := by rw [← hde]; simpa using hc3
          exact ⟨_, [.cells g2 29 [iA 0, iA 0, iA 0, iA 0, iA 0, .x (.slice none 0 0), .x (.slice none 0 0)], rdO p (dBt s).2, rdrC g11 p (deltaE d), .cells g5 29 (encDl d)], [], ⟨_, _, (by unfold rD3; rw [← hde]; rw [← hde] at k0; exact (if_pos k0).symm), rfl, rfl⟩, ⟨rfl, rfl, rfl, rfl, rfl, trivial⟩, rfl⟩
        · refine wSkip ?_
          have k0 : (rD2 s).2 ≠ 0 := by rw [← hde]; simpa using hc3
          exact ⟨_, [.cells g2 29 [iA 0, iA 0, iA 0, iA 0, iA 0, .x (.slice none 0 0), .x (.slice none 0 0)], rdO p (dBt s).2, rdrC g11 p e, .cells g5 29 (encDl d)], [], ⟨_, _, (by unfold rD3; exact hde.trans (if_neg k0).symm), rfl, rfl⟩, ⟨rfl, rfl, rfl, rfl, rfl, trivial⟩, rfl⟩
      · rintro L h ⟨d, e, hde, rfl, rfl⟩
        refine wSeq ?_
        refine wSeq ?_
        refine wReg ?_  -- region 11
        refine sP rfl rfl rfl (pM rfl rfl) ?_  -- t70 := move t4
        refine sP rfl rfl rfl (p_nilCheck rfl rfl) ?_  -- t71 := nilCheck t70
        refine sP rfl rfl rfl (p_fieldAddr_own rfl rfl fl121_1 ty32 (by decide)) ?_  -- t72 := fieldAddr t71
        refine sP rfl rfl rfl (pLdO1 2 rfl rfl rfl ty32 rfl) ?_  -- t73 := load t72
        refine sP rfl rfl rfl (p_icmp rfl rfl rfl rfl) ?_  -- t74 := binOp t73 c
        refine lNil ?_
        refine wCond rfl (fun hc4 => ?_) (fun hc4 => ?_)  -- t74
        · refine wSeq ?_
          refine wDrawM 6 (by kernel_rfl) (by kernel_rfl) (fun m => [.cells g2 29 (match m with | 0 => [iA 0, iA 0, iA 0, iA 0, iA 0, .x (.slice none 0 0), .x (.slice none 0 0)] | _ => [iA 0, iA 0, iA 0, iA 0, iA 0, .x (.slice none 0 0), .x (.slice none 0 0)]), rdO p (dBt s).2, rdrC g11 p e, .cells g5 29 (encDl d)]) [5] (by kernel_rfl) rfl (fun m _ => rfl) ?_  -- region 12
          refine dwP rfl rfl rfl rfl rfl (fun k al => (p_build (res := [iA 0, iA 0, iA 0, iA 0, iA 0, .x (.slice none 0 0), .x (.slice none 0 0)]) rfl ze29 pl29 rfl rfl)) ?_  -- t75 := build 
          refine dwP rfl rfl rfl rfl rfl (fun k al => (pM rfl rfl)) ?_  -- t76 := move t4
          refine dwP rfl rfl rfl rfl rfl (fun k al => (p_nilCheck rfl rfl)) ?_  -- t77 := nilCheck t76
          refine dwP rfl rfl rfl rfl rfl (fun k al => (p_fieldAddr_own rfl rfl fl121_1 ty32 (by decide))) ?_  -- t78 := fieldAddr t77
          refine dwP rfl rfl rfl rfl rfl (fun k al => (pLdO1 2 rfl rfl rfl ty32 rfl)) ?_  -- t79 := load t78
          refine dwS 0 rfl rfl rfl rfl (fun al => mstep_storeE 0 rfl rfl rfl ty29 rfl rfl rfl (Nat.le_of_ble_eq_true rfl) rfl) ?_
          refine dwNil ?_
          refine sP rfl rfl rfl (pA rfl rfl) ?_  -- t3 := assign t79
          refine lNil ?_
          refine wRet ?_
          have k3 : dreadE s ≠ 0 := by rw [← (rD_end s).1, ← hde]; simpa using hc4
          have hT : dreadT s = zeroD := if_pos k3
          rw [hT]
          exact rgs2 (rg_cell rfl (List.mem_of_getElem? (i := 0) rfl) ty29 (.inl ⟨rfl, Nat.le_refl _, rfl⟩) (gives_sub (Sub.agg ⟨Sub.refl, Sub.refl, Sub.refl, Sub.refl, Sub.refl, Sub.nil_, Sub.nil_, trivial⟩))) (rg_tmp (gives_sub (Sub.of_eq (avI (by rw [← (rD_end s).1, ← hde])))))
        · refine wSkip ?_
          refine wSeq ?_
          refine wReg ?_  -- region 13
          refine sP rfl rfl rfl (pLdW 3 rfl rfl rfl ty29 rfl) ?_  -- t80 := load t5
          refine sStore 0 rfl rfl rfl rfl rfl ty29 rfl rfl rfl (Nat.le_of_ble_eq_true rfl) ?_  -- t := store t2 t80
          refine sP rfl rfl rfl (pA rfl rfl) ?_  -- t3 := assign c
          refine lNil ?_
          refine wRet ?_
          have k3 : dreadE s = 0 := by rw [← (rD_end s).1, ← hde]; simpa using hc4
          have hT : d = dreadT s := by unfold dreadT; rw [if_neg (by simpa using k3), ← (rD_end s).2 k3, ← hde]
          exact rgs2 (rg_cell rfl (List.mem_of_getElem? (i := 0) rfl) ty29 (.inl ⟨rfl, Nat.le_refl _, rfl⟩) (gives_sub (Sub.of_eq (avDl hT)))) (rg_tmp (gives_sub (Sub.of_eq (avI k3.symm))))
end Go.Proofs.Ytmhkalalcmkpbaa
