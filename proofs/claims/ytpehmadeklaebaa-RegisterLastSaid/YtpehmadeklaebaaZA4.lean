/-
  A3 A4
-/
import Derived.Test.YtpehmadeklaebaaZA2
import Derived.Laws.Cells
import Derived.Laws.Entries
namespace Go.Proofs.Ytpehmadeklaebaa
open Go Go.RowKit
set_option linter.unusedVariables false
set_option linter.unusedSimpArgs false

/-- An operation of such a region: wanted, or not. -/
def PureG (P : Program) (K : Prop) (N : Nat) (X : Nat → Prop) (h : List HObj) (ops : Array Oper) (f : Nat → AV) (o : Oper) (av : AV) : Prop :=
  (o.guard = none ∧ PureOp P K N X h f o av) ∨
  (∃ j b b' t, o.guard = some (j, b) ∧ (ops[j]?).bind (·.dst) = some t ∧ f t = .x (.bool b') ∧ (b' = b → PureOp P K N X h f o av) ∧ (b' ≠ b → av = .any ∨ av = .x undef)) ∨
  ∃ j b t, o.guard = some (j, b) ∧ (ops[j]?).bind (·.dst) = some t ∧ f t = .x undef ∧ av = .x undef

def Chain (P : Program) (K : Prop) (N : Nat) (X : Nat → Prop) (h : List HObj) (ops : Array Oper) : List Oper → (Nat → AV) → ((Nat → AV) → Prop) → Prop
  | [], f, G => G f
  | o :: rest, f, G => ∃ av, PureG P K N X h ops f o av ∧ Chain P K N X h ops rest (putT N f o.dst av) G

section
variable {P : Program} {N : Nat} {X : Nat → Prop} {h : List HObj} {ops : Array Oper} {f : Nat → AV} {K : Prop} {G : (Nat → AV) → Prop}
theorem Chain.imp {G' : (Nat → AV) → Prop} (hk : ∀ f, G f → G' f) : ∀ {l : List Oper} {f : Nat → AV}, Chain P K N X h ops l f G → Chain P K N X h ops l f G'
  | [], _, k => hk _ k
  | _ :: _, _, ⟨av, hp, k⟩ => ⟨av, hp, Chain.imp hk k⟩

/-- The chain's frames and values. -/
theorem Chain.steps : ∀ {l : List Oper} {f : Nat → AV}, Chain P K N X h ops l f G → ∃ (fs : Nat → Nat → AV) (vs : Nat → AV), fs 0 = f ∧ G (fs l.length) ∧
    ∀ (i : Nat) (o : Oper), l[i]? = some o → PureG P K N X h ops (fs i) o (vs i) ∧ fs (i + 1) = putT N (fs i) o.dst (vs i)
  | [], f, k => ⟨fun _ => f, fun _ => .any, rfl, k, fun i o hi => by simp at hi⟩
  | o :: rest, f, ⟨av, hp, k⟩ => by
    obtain ⟨fs, vs, h0, hk, hs⟩ := Chain.steps k
    refine ⟨fun i => match i with | 0 => f | i + 1 => fs i, fun i => match i with | 0 => av | i + 1 => vs i, rfl, hk, fun i p hi => ?_⟩
    cases i with
    | zero =>
      obtain rfl : o = p := by simpa using hi
      exact ⟨hp, h0⟩
    | succ i => exact hs i p (by simpa using hi)
end

def memE (l : Array Edge) (j : Nat) : Bool := l.any fun e => Nat.beq e.on j && Region.binds .any e
structure DrawOk (ops : Array Oper) (n N : Nat) : Prop where
  le : n ≤ ops.size
  down : ∀ (i : Nat) (o : Oper), ops[i]? = some o → ∀ e ∈ o.after, e.on < i
  lt : ∀ (i : Nat) (o : Oper) d, i < n → ops[i]? = some o → o.dst = some d → d < N
  uniq : ∀ (i j : Nat) (o p : Oper) d, i < n → j < n → ops[i]? = some o → ops[j]? = some p → o.dst = some d → p.dst = some d → i = j
  reads : ∀ (i j : Nat) (o p : Oper) t, i < n → j < n → ops[i]? = some o → ops[j]? = some p → p.dst = some t → (t ∈ opRds o ∨ ∃ g b, o.guard = some (g, b) ∧ (ops[g]?).bind (·.dst) = some t) → j < i ∧ ∃ e ∈ o.after, e.on = j ∧ Region.binds .any e = true
  tail : ∀ (i j : Nat) (o : Oper), n ≤ i → j < i → ops[i]? = some o → ∃ e ∈ o.after, e.on = j ∧ Region.binds .any e = true

theorem memE_spec {l : Array Edge} {j : Nat} (h : memE l j = true) : ∃ e ∈ l, e.on = j ∧ Region.binds .any e = true := by
  unfold memE at h
  rw [Array.any_eq_true'] at h
  obtain ⟨e, he, h⟩ := h
  simp only [Bool.and_eq_true] at h
  exact ⟨e, he, Nat.eq_of_beq_eq_true h.1, h.2⟩

section
variable {P : Program} {C : Cx} {Q : Exit → AS → Prop} {s : AS}

end
end Go.Proofs.Ytpehmadeklaebaa

namespace Go.Proofs.Ytpehmadeklaebaa
open Go Go.RowKit
set_option linter.unusedVariables false
set_option linter.unusedSimpArgs false

/-- Of a type: is it a struct or an array; how many cells. -/
def tyOf (P : Program) (t : TypeId) : Option (Bool × Nat) :=
  match P.underlying t, P.info? t with
  | some d, some i => some (match d with | .struct _ | .array _ _ => true | _ => false, i.size)
  | _, _ => none
def tyZero (P : Program) (t : TypeId) : Option (List Value) := ((P.info? t).bind (·.zero)).map fun v => v.cells.toList
def tyFields (P : Program) (t : TypeId) : Option (List (Nat × TypeId)) :=
  match P.underlying t with
  | some (.struct fs) => some (fs.toList.map fun f => (f.offset, f.type))
  | _ => none
/-- A struct's field: where, and its type. -/
def tyField (P : Program) (t : TypeId) (j : Nat) : Option (Nat × TypeId) := (tyFields P t).bind (·[j]?)

section
variable {P : Program} {K : Prop} {N : Nat} {X : Nat → Prop} {h : List HObj} {f : Nat → AV} {o : Oper}

theorem opRds_mem {o : Oper} {t : Nat} (h : Operand.tmp t ∈ o.op.operands.toList) : t ∈ opRds o := by
  unfold opRds
  rw [List.mem_filterMap]
  exact ⟨_, h, rfl⟩

theorem pure_of {av : AV} (H : ∀ (a : Act) (w : World) (w0 : Orig), w0.K = K → Env X w0 h w → (∀ x ∈ o.op.operands.toList, Rep (owned X h) w (evalT f x) (a.eval x)) →
    ∃ v w', (execOp a.eval o).run P w = .ok (.value v) w' ∧ Bl K w w' ∧ Rep (owned X h) w' av v) : PureOp P K N X h f o av := by
  intro a w w0 hK env hsz hr next Q hk
  obtain ⟨v, w', h1, h2, h3⟩ := H a w w0 hK env fun x hx => by
    cases x with
    | tmp t => exact hr t (opRds_mem hx)
    | const v => simp only [evalT, Rep, Act.eval]
    | global g => simp only [evalT, Rep, Act.eval]
    | func g => simp only [evalT, Rep, Act.eval]
  unfold Oper.wp
  rw [h1]
  exact hk v w' h2 h3

/-- An operation at values that are known just. -/
theorem pure_run {av : AV} (H : ∀ (a : Act) (w : World) (w0 : Orig), Env X w0 h w → (∀ x ∈ o.op.operands.toList, Rep (owned X h) w (evalT f x) (a.eval x)) → ∃ v, (execOp a.eval o).run P w = .ok (.value v) w ∧ Rep (owned X h) w av v) : PureOp P K N X h f o av :=
  pure_of fun a w w0 hK env hr => let ⟨v, h1, h2⟩ := H a w w0 env hr; ⟨v, w, h1, Bl.refl _ _, h2⟩

theorem rep_x {O : Nat → Prop} {w : World} {u v : Value} : Rep O w (.x u) v ↔ v = u := by simp only [Rep]

theorem p_move {x : Operand} (ho : o.op = .move x) : PureOp P K N X h f o (evalT f x) := pure_run fun a w w0 env hr => by
  rw [ho] at hr
  refine ⟨a.eval x, ?_, hr x (by simp [Op.operands])⟩
  simp [execOp, ho]
theorem p_assign {x : Operand} (ho : o.op = .assign x) : PureOp P K N X h f o (evalT f x) := pure_run fun a w w0 env hr => by
  rw [ho] at hr
  refine ⟨a.eval x, ?_, hr x (by simp [Op.operands])⟩
  simp [execOp, ho]

def icmp : BinOp → Int → Int → Option Bool
  | .eql, a, b => some (decide (a = b))
  | .neq, a, b => some (!decide (a = b))
  | .lss, a, b => some (decide (a < b))
  | .leq, a, b => some (decide (a ≤ b))
  | .gtr, a, b => some (decide (b < a))
  | .geq, a, b => some (decide (b ≤ a))
  | _, _, _ => none
theorem p_icmp {op : BinOp} {t t' : TypeId} {x y : Operand} {k : IntKind} {a b : Int} {r : Bool} (ho : o.op = .binOp op t x y t') (hx : evalT f x = .x (.int k a)) (hy : evalT f y = .x (.int k b)) (hr : icmp op a b = some r) :
    PureOp P K N X h f o (.x (.bool r)) := pure_run fun ac w w0 env H => by
  rw [ho] at H
  have h1 := H x (by simp [Op.operands])
  have h2 := H y (by simp [Op.operands])
  rw [hx, rep_x] at h1
  rw [hy, rep_x] at h2
  refine ⟨.bool r, ?_, rep_x.2 rfl⟩
  cases op <;> simp only [icmp, Option.some.injEq] at hr <;> first | cases hr; done | (subst hr; simp [execOp, ho, h1, h2, eqGuard, binOp, Op.intCmp, bne, BEq.beq])

def iar : BinOp → IntKind → Int → Int → Option Int
  | .add, k, a, b => some (k.wrap (a + b))
  | .sub, k, a, b => some (k.wrap (a - b))
  | .mul, k, a, b => some (k.wrap (a * b))
  | _, _, _, _ => none
theorem p_iar {op : BinOp} {t t' : TypeId} {x y : Operand} {k : IntKind} {a b r : Int} (ho : o.op = .binOp op t x y t') (hx : evalT f x = .x (.int k a)) (hy : evalT f y = .x (.int k b)) (hr : iar op k a b = some r) :
    PureOp P K N X h f o (.x (.int k r)) := pure_run fun ac w w0 env H => by
  rw [ho] at H
  have h1 := H x (by simp [Op.operands])
  have h2 := H y (by simp [Op.operands])
  rw [hx, rep_x] at h1
  rw [hy, rep_x] at h2
  refine ⟨.int k r, ?_, rep_x.2 rfl⟩
  cases op <;> simp only [iar, Option.some.injEq] at hr <;> first | cases hr; done | (subst hr; simp [execOp, ho, h1, h2, eqGuard, binOp, Op.intArith])

theorem ba_toList_inj {a b : ByteArray} (h : a.toList = b.toList) : a = b := by
  rw [ByteArray.toList_eq, ByteArray.toList_eq] at h
  cases a; cases b
  simp only [ByteArray.mk.injEq]
  exact Array.toList_inj.1 h
def scmp : BinOp → ByteArray → ByteArray → Option Bool
  | .eql, a, b => some (decide (a = b))
  | .neq, a, b => some (!decide (a = b))
  | .lss, a, b => some (Op.bytesLess a.toList b.toList)
  | .gtr, a, b => some (!(Op.bytesLess a.toList b.toList || decide (a = b)))
  | _, _, _ => none
theorem p_scmp {op : BinOp} {t t' : TypeId} {x y : Operand} {a b : ByteArray} {r : Bool} (ho : o.op = .binOp op t x y t') (hx : evalT f x = .x (.string a)) (hy : evalT f y = .x (.string b)) (hr : scmp op a b = some r) :
    PureOp P K N X h f o (.x (.bool r)) := pure_run fun ac w w0 env H => by
  rw [ho] at H
  have h1 := H x (by simp [Op.operands])
  have h2 := H y (by simp [Op.operands])
  rw [hx, rep_x] at h1
  rw [hy, rep_x] at h2
  have he : (a.toList == b.toList) = decide (a = b) := by
    rw [Bool.eq_iff_iff]; simp only [beq_iff_eq, decide_eq_true_eq]
    exact ⟨ba_toList_inj, fun e => by rw [e]⟩
  refine ⟨.bool r, ?_, rep_x.2 rfl⟩
  cases op <;> simp only [scmp, Option.some.injEq] at hr <;> first | cases hr; done | (subst hr; simp [execOp, ho, h1, h2, eqGuard, binOp, Op.stringOp, he])
theorem p_sadd {t t' : TypeId} {x y : Operand} {a b : ByteArray} (ho : o.op = .binOp .add t x y t') (hx : evalT f x = .x (.string a)) (hy : evalT f y = .x (.string b)) (hs : a.size + b.size < 9223372036854775807) :
    PureOp P K N X h f o (.x (.string (a ++ b))) := pure_run fun ac w w0 env H => by
  rw [ho] at H
  have h1 := H x (by simp [Op.operands])
  have h2 := H y (by simp [Op.operands])
  rw [hx, rep_x] at h1
  rw [hy, rep_x] at h2
  refine ⟨.string (a ++ b), ?_, rep_x.2 rfl⟩
  have hm : IntKind.i64.max = 9223372036854775807 := by decide
  have : ¬ (((a.size + b.size : Nat) : Int) > IntKind.i64.max) := by rw [hm]; omega
  simp only [execOp, ho, h1, h2, eqGuard, binOp, Op.stringOp]
  simp [hm]
  omega
theorem p_not {t : TypeId} {x : Operand} {b : Bool} (ho : o.op = .unOp .not t x) (hx : evalT f x = .x (.bool b)) : PureOp P K N X h f o (.x (.bool !b)) := pure_run fun ac w w0 env H => by
  rw [ho] at H
  have h1 := H x (by simp [Op.operands])
  rw [hx, rep_x] at h1
  exact ⟨.bool !b, by simp [execOp, ho, h1, Op.unary], rep_x.2 rfl⟩
theorem p_neg {t : TypeId} {x : Operand} {k : IntKind} {b : Int} (ho : o.op = .unOp .neg t x) (hx : evalT f x = .x (.int k b)) : PureOp P K N X h f o (.x (.int k (k.wrap (0 - b)))) := pure_run fun ac w w0 env H => by
  rw [ho] at H
  have h1 := H x (by simp [Op.operands])
  rw [hx, rep_x] at h1
  exact ⟨_, by simp only [execOp, ho, h1, Op.unary, Op.intArith]; rfl, rep_x.2 rfl⟩
theorem p_pick {c x y : Operand} {b : Bool} {av : AV} (ho : o.op = .pick c x y) (hc : evalT f c = .x (.bool b)) (h1 : (if b = true then evalT f x else evalT f y) = av) : PureOp P K N X h f o av := pure_run fun a w w0 env H => by
  rw [ho] at H
  have g := H c (by simp [Op.operands])
  rw [hc, rep_x] at g
  refine ⟨if b = true then a.eval x else a.eval y, ?_, ?_⟩
  · cases b <;> simp [execOp, ho, g, asBool]
  · rw [← h1]
    cases b
    · exact H y (by simp [Op.operands])
    · exact H x (by simp [Op.operands])
theorem p_conv_int {src dst : TypeId} {x : Operand} {k k' : IntKind} {n : Int} {d : TypeDesc} (ho : o.op = .convert src dst x) (hs : P.underlying src = some d) (hd : P.underlying dst = some (.int k)) (hx : evalT f x = .x (.int k' n)) :
    PureOp P K N X h f o (.x (.int k (k.wrap n))) := pure_run fun ac w w0 env H => by
  rw [ho] at H
  have h1 := H x (by simp [Op.operands])
  rw [hx, rep_x] at h1
  exact ⟨_, by simp [execOp, ho, h1, convert, run_underlying hs, run_underlying hd, Conv.intToInt], rep_x.2 rfl⟩
theorem p_extract {x : Operand} {i : Nat} {cs : List AV} {av : AV} (ho : o.op = .extract x i) (hx : evalT f x = .tup cs) (hi : cs[i]? = some av) : PureOp P K N X h f o av := pure_run fun a w w0 env H => by
  rw [ho] at H
  have h1 := H x (by simp [Op.operands])
  rw [hx] at h1
  simp only [Rep] at h1
  obtain ⟨us, e, hs, hc⟩ := h1
  obtain ⟨u, hu, hr⟩ := hc.at_ i av hi
  exact ⟨u, by simp [execOp, ho, e, Instr.extract, hu], hr⟩
end
end Go.Proofs.Ytpehmadeklaebaa
