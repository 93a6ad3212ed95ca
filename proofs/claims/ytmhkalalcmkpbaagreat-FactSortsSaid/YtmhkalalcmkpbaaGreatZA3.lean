/-
  A2 A3
-/
import Derived.Test.YtmhkalalcmkpbaaGreatZA1
namespace Go.Proofs.YtmhkalalcmkpbaaGreat
open Go Go.RowKit
set_option linter.unusedVariables false
set_option linter.unusedSimpArgs false

structure Cx where
  N : Nat
  X : Nat → Prop
  w0 : Orig

abbrev Cx.St (C : Cx) (s : AS) (a : Act) (w : World) : Prop := Go.Proofs.YtmhkalalcmkpbaaGreat.St C.N C.X C.w0 s a w
def up (C : Cx) (Q : Exit → AS → Prop) : Exit → Act → World → Prop := fun e a w => ∃ s, C.St s a w ∧ Q e s
def AW (P : Program) (C : Cx) (c : Code) (Q : Exit → AS → Prop) (s : AS) : Prop := ∀ a w, C.St s a w → c.wp P (up C Q) a w
def AWL (P : Program) (C : Cx) (ops : Array Oper) (Q : Exit → AS → Prop) (l : List Oper) (s : AS) : Prop := ∀ a w, C.St s a w → wpList P ops (up C Q) l a w

def thenA (n : AS → Prop) (Q : Exit → AS → Prop) : Exit → AS → Prop
  | .normal, s => n s
  | e, s => Q e s
def inB (id : Nat) (Q : Exit → AS → Prop) : Exit → AS → Prop
  | .exit i, s => bif Nat.beq i id then Q .normal s else Q (.exit i) s
  | e, s => Q e s

section
variable {P : Program} {C : Cx} {Q : Exit → AS → Prop} {s : AS}

theorem aw_mono {c : Code} {Q' : Exit → AS → Prop} (h : AW P C c Q s) (hq : ∀ e s, Q e s → Q' e s) : AW P C c Q' s :=
  fun a w hs => wp_mono (h a w hs) fun e a w ⟨s, h1, h2⟩ => ⟨s, h1, hq e s h2⟩
theorem aw_skip (h : Q .normal s) : AW P C .skip Q s := fun a w hs => wp_skip ⟨s, hs, h⟩
theorem aw_label {l : Nat} (h : Q .normal s) : AW P C (.label l) Q s := fun a w hs => wp_label ⟨s, hs, h⟩
theorem aw_exit {id : Nat} (h : Q (.exit id) s) : AW P C (.exit id) Q s := fun a w hs => wp_exit ⟨s, hs, h⟩
theorem aw_goto {id : Nat} (h : Q (.goto id) s) : AW P C (.goto id) Q s := fun a w hs => wp_goto ⟨s, hs, h⟩
theorem aw_ret (h : Q .ret s) : AW P C .ret Q s := fun a w hs => wp_ret ⟨s, hs, h⟩
theorem aw_seq {x y : Code} (h : AW P C x (thenA (AW P C y Q) Q) s) : AW P C (.seq x y) Q s := fun a w hs =>
  wp_seq (wp_mono (h a w hs) fun e a w ⟨s, h1, h2⟩ => by
    cases e <;> first | exact h2 a w h1 | exact ⟨s, h1, h2⟩)
theorem aw_cond {c : Operand} {x y : Code} {b : Bool} (hc : evalT s.t c = .x (.bool b)) (ht : b = true → AW P C x Q s) (hf : b = false → AW P C y Q s) : AW P C (.cond c x y) Q s := fun a w hs => by
  have h := hs.slots.eval c
  rw [hc] at h
  simp only [Rep] at h
  exact wp_cond_split h (fun e => ht e a w hs) (fun e => hf e a w hs)
theorem aw_block {id : Nat} {c : Code} (h : AW P C c (inB id Q) s) : AW P C (.block id c) Q s := fun a w hs =>
  wp_block (wp_mono (h a w hs) fun e a w ⟨s, h1, h2⟩ => by
    cases e with
    | exit i =>
      simp only [Exit.inBlock]
      simp only [inB] at h2
      by_cases hi : i = id
      · subst hi
        rw [if_pos rfl]
        rw [show Nat.beq i i = true by simp] at h2
        exact ⟨s, h1, h2⟩
      · rw [if_neg hi]
        have : Nat.beq i id = false := by
          cases hh : Nat.beq i id with
          | false => rfl
          | true => exact absurd (Nat.eq_of_beq_eq_true hh) hi
        rw [this] at h2
        exact ⟨s, h1, h2⟩
    | _ => exact ⟨s, h1, h2⟩)

/-- What is known of fewer slots, and of fewer blocks. -/
def Wk (s s' : AS) : Prop := (∃ r, s.h = s'.h ++ r) ∧ ∀ t, s'.t t = .any ∨ s'.t t = s.t t
theorem owned_pre {X : Nat → Prop} {h r : List HObj} {b : Nat} (hb : owned X h b) : owned X (h ++ r) b := by
  rcases hb with hb | ⟨o, ho, hob⟩
  · exact .inl hb
  · exact .inr ⟨o, List.mem_append_left _ ho, hob⟩
theorem Env.pre {X : Nat → Prop} {w0 : Orig} {w : World} {h r : List HObj} (env : Env X w0 (h ++ r) w) : Env X w0 h w where
  below := env.below
  objs o ho := HObj.ok_mono (env.objs o (List.mem_append_left _ ho)) (Kept.refl _ _) (fun b _ hb => owned_pre hb) fun _ _ => rfl
  new o ho := env.new o (List.mem_append_left _ ho)
  lt o ho := env.lt o (List.mem_append_left _ ho)
  ext := env.ext
  apart i j o p b hi hj := env.apart i j o p b (by rw [List.getElem?_append, if_pos (List.getElem?_eq_some_iff.1 hi).1]; exact hi) (by rw [List.getElem?_append, if_pos (List.getElem?_eq_some_iff.1 hj).1]; exact hj)
theorem Wk.st {N : Nat} {X : Nat → Prop} {w0 : Orig} {s s' : AS} {a : Act} {w : World} (h : Wk s s') (hs : St N X w0 s a w) : St N X w0 s' a w := by
  obtain ⟨⟨r, h1⟩, h2⟩ := h
  cases s with | mk t hh =>
  cases s' with | mk t' hh' =>
  simp only at h1 h2
  subst h1
  refine ⟨hs.env.pre, hs.slots.defers, hs.slots.size, fun t => ?_⟩
  rcases h2 t with e | e
  · simp only [e, Rep]
  · simp only [e]; exact Rep.mono (Kept.refl _ _) (fun b _ hb => owned_pre hb) _ _ (hs.slots.slot t)
def tab : List (Nat × AV) → Nat → AV
  | [] => fun _ => .any
  | (d, v) :: l => upd (tab l) d v
def AllEq (f : Nat → AV) : List (Nat × AV) → Prop
  | [] => True
  | (d, v) :: l => f d = v ∧ AllEq f l
theorem wk_tab {s : AS} {h r : List HObj} (hh : s.h = h ++ r) : ∀ {l : List (Nat × AV)}, AllEq s.t l → Wk s ⟨tab l, h⟩
  | [], _ => ⟨⟨r, hh⟩, fun t => .inl rfl⟩
  | (d, v) :: l, ha => ⟨⟨r, hh⟩, fun t => by
      by_cases ht : t = d
      · subst ht
        refine .inr ?_
        show upd (tab l) t v t = _
        rw [upd_same]; exact ha.1.symm
      · show upd (tab l) d v t = _ ∨ upd (tab l) d v t = _
        rw [upd_ne _ _ ht]
        exact (wk_tab (s := s) hh ha.2).2 t⟩

theorem aw_loop {c : Code} (I : Nat → AS → Prop) (h0 : ∃ m s', I m s' ∧ Wk s s')
    (hr : ∀ m s, I m s → AW P C c (thenA (fun s' => ∃ m' s'', m' < m ∧ I m' s'' ∧ Wk s' s'') Q) s) : AW P C (.loop c) Q s := by
  intro a w hs
  obtain ⟨m0, s0, hi, hw⟩ := h0
  have key : ∀ m s a w, I m s → C.St s a w → ∀ (b : Frame) (k : List Item) (cs : List Frame), ∃ e a' w', up C Q e a' w' ∧ Arrives P (lone (b.at a (.code c :: .inLoop c :: k)) cs w) b k cs e a' w' := by
    intro m
    induction m using Nat.strongRecOn with
    | _ m ih =>
      intro s a w hI hS b k cs
      obtain ⟨e, a₁, w₁, hq, harr⟩ := hr m s hI a w hS b (.inLoop c :: k) cs
      obtain ⟨s₁, hs₁, hq⟩ := hq
      cases e with
      | normal =>
        obtain ⟨m', s'', hlt, hI', hwk⟩ := hq
        obtain ⟨e₂, a₂, w₂, hq₂, harr₂⟩ := ih m' hlt s'' a₁ w₁ hI' (hwk.st hs₁) b k cs
        exact ⟨e₂, a₂, w₂, hq₂, .of_steps (Steps.trans harr (.one step_inLoop)) harr₂⟩
      | exit id => exact ⟨_, a₁, w₁, ⟨s₁, hs₁, hq⟩, .pass (x := .inLoop c) rfl (fun _ _ => .inl (by simp)) harr⟩
      | goto l => exact ⟨_, a₁, w₁, ⟨s₁, hs₁, hq⟩, .pass (x := .inLoop c) rfl (fun _ _ => .inl (by simp)) harr⟩
      | ret => exact ⟨_, a₁, w₁, ⟨s₁, hs₁, hq⟩, .pass (x := .inLoop c) rfl (fun _ _ => .inl (by simp)) harr⟩
      | panic ch => exact ⟨_, a₁, w₁, ⟨s₁, hs₁, hq⟩, .pass (x := .inLoop c) rfl (fun _ _ => .inl (by simp)) harr⟩
      | outgrown => exact ⟨_, a₁, w₁, ⟨s₁, hs₁, hq⟩, .pass (x := .inLoop c) rfl (fun _ _ => .inl (by simp)) harr⟩
  intro b k cs
  obtain ⟨e, a', w', hq, harr⟩ := key m0 s0 a w hi (hw.st hs) b k cs
  exact ⟨e, a', w', hq, .of_steps (.one step_loop) harr⟩

/-- A cut: what is known behind a piece of code. -/
theorem aw_cut {x y : Code} (M : AS → Prop) (h : AW P C x (thenA (fun s' => ∃ s'', M s'' ∧ Wk s' s'') Q) s) (hy : ∀ s, M s → AW P C y Q s) : AW P C (.seq x y) Q s :=
  aw_seq (aw_mono h fun e s h => by
    cases e with
    | normal => obtain ⟨s'', h1, h2⟩ := h; exact fun a w hs => hy s'' h1 a w (h2.st hs)
    | _ => exact h)

theorem aw_weaken {c : Code} {s' : AS} (hw : Wk s s') (h : AW P C c Q s') : AW P C c Q s := fun a w hs => h a w (hw.st hs)

def opRds (o : Oper) : List Nat := o.op.operands.toList.filterMap fun | .tmp t => some t | _ => none

/-- An operation that gives a value, and changes nothing that was there. -/
def PureOp (P : Program) (K : Prop) (N : Nat) (X : Nat → Prop) (h : List HObj) (f : Nat → AV) (o : Oper) (av : AV) : Prop :=
  ∀ (a : Act) (w : World) (w0 : Orig), w0.K = K → Env X w0 h w → a.tmps.size = N → (∀ t ∈ opRds o, Rep (owned X h) w (f t) (a.tmps.getD t undef)) →
    ∀ (next : Act → World → Prop) (Q : Exit → Act → World → Prop), (∀ v w', Bl K w w' → Rep (owned X h) w' av v → next (a.put o.dst v) w') → o.wp P a w next Q

theorem wanted_none {o : Oper} (h : o.guard = none) (y : Nat → Option Bool) : Region.wanted o y = true := by simp [Region.wanted, h]

theorem awl_nil {ops : Array Oper} (h : Q .normal s) : AWL P C ops Q [] s := fun a w hs => ⟨s, hs, h⟩

theorem awl_pure {ops : Array Oper} {o : Oper} {rest : List Oper} (av : AV) (hg : o.guard = none) (hp : PureOp P C.w0.K C.N C.X s.h s.t o av)
    (k : AWL P C ops Q rest ⟨putT C.N s.t o.dst av, s.h⟩) : AWL P C ops Q (o :: rest) s := by
  intro a w hs
  refine wpList_plain hg fun K hK => hp a w C.w0 rfl hs.env hs.slots.size (fun t _ => hs.slots.slot t) K _ fun v w' hb hr => hK _ _ (k _ _ ?_)
  have hs' := hs.below_ hb
  exact ⟨hs'.env, hs'.slots.put o.dst hr⟩

theorem undef_rep {O : Nat → Prop} {w : World} : Rep O w .any undef := by simp only [Rep]

theorem yield_bool {ops : Array Oper} {a : Act} {j t : Nat} {b : Bool} (hj : (ops[j]?).bind (·.dst) = some t) (h : a.tmps.getD t undef = .bool b) : yielded ops a.tmps j = some b := by
  unfold yielded
  rw [hj]
  show (match a.tmps[t]? with | some (.bool b) => some b | _ => none) = some b
  rw [Array.getD_eq_getD_getElem?] at h
  cases hh : a.tmps[t]? with
  | none => rw [hh] at h; cases h
  | some v => rw [hh] at h; obtain rfl : v = .bool b := h; rfl

/-- A guard that says no. -/
theorem awl_unwanted {ops : Array Oper} {o : Oper} {rest : List Oper} {j : Nat} {b b' : Bool} {t : Nat} (hg : o.guard = some (j, b)) (hj : (ops[j]?).bind (·.dst) = some t) (ht : s.t t = .x (.bool b')) (hb : b' ≠ b)
    (k : AWL P C ops Q rest ⟨putT C.N s.t o.dst .any, s.h⟩) : AWL P C ops Q (o :: rest) s := by
  intro a w hs
  have h := hs.slots.slot t
  rw [ht] at h
  simp only [Rep] at h
  have hw : Region.wanted o (yielded ops a.tmps) = false := by
    have : yielded ops a.tmps j = some b' := by
      exact yield_bool hj h
    simp [Region.wanted, hg, this, hb]
  refine wpList_step fun K hK => ?_
  rw [hw]
  exact hK _ _ (k _ _ ⟨hs.env, hs.slots.put o.dst undef_rep⟩)
theorem awl_wanted {ops : Array Oper} {o : Oper} {rest : List Oper} {j : Nat} {b : Bool} {t : Nat} (av : AV) (hg : o.guard = some (j, b)) (hj : (ops[j]?).bind (·.dst) = some t) (ht : s.t t = .x (.bool b)) (hp : PureOp P C.w0.K C.N C.X s.h s.t o av)
    (k : AWL P C ops Q rest ⟨putT C.N s.t o.dst av, s.h⟩) : AWL P C ops Q (o :: rest) s := by
  intro a w hs
  have h := hs.slots.slot t
  rw [ht] at h
  simp only [Rep] at h
  have hw : Region.wanted o (yielded ops a.tmps) = true := by
    have : yielded ops a.tmps j = some b := by
      exact yield_bool hj h
    simp [Region.wanted, hg, this]
  refine wpList_step fun K hK => ?_
  rw [hw]
  refine hp a w C.w0 rfl hs.env hs.slots.size (fun t _ => hs.slots.slot t) K _ fun v w' hb hr => hK _ _ (k _ _ ?_)
  have hs' := hs.below_ hb
  exact ⟨hs'.env, hs'.slots.put o.dst hr⟩

theorem aw_region {id : Nat} {l : List Oper} (h : AWL P C l.toArray Q l s) : AW P C (.region id l.toArray false) Q s := fun a w hs => wp_region_lit (h a w hs)
end
end Go.Proofs.YtmhkalalcmkpbaaGreat

namespace Go.Proofs.YtmhkalalcmkpbaaGreat
open Go Go.RowKit
set_option linter.unusedVariables false
set_option linter.unusedSimpArgs false

/-- An operation of such a region: wanted, or not. -/
def PureG (P : Program) (K : Prop) (N : Nat) (X : Nat → Prop) (h : List HObj) (ops : Array Oper) (f : Nat → AV) (o : Oper) (av : AV) : Prop :=
  (o.guard = none ∧ PureOp P K N X h f o av) ∨
  (∃ j b b' t, o.guard = some (j, b) ∧ (ops[j]?).bind (·.dst) = some t ∧ f t = .x (.bool b') ∧ (b' = b → PureOp P K N X h f o av) ∧ (b' ≠ b → av = .any ∨ av = .x undef)) ∨
  ∃ j b t, o.guard = some (j, b) ∧ (ops[j]?).bind (·.dst) = some t ∧ f t = .x undef ∧ av = .x undef

def Chain (P : Program) (K : Prop) (N : Nat) (X : Nat → Prop) (h : List HObj) (ops : Array Oper) : List Oper → (Nat → AV) → ((Nat → AV) → Prop) → Prop
  | [], f, G => G f
  | o :: rest, f, G => ∃ av, PureG P K N X h ops f o av ∧ Chain P K N X h ops rest (putT N f o.dst av) G

section
variable {P : Program} {N : Nat} {X : Nat → Prop} {h : List HObj} {ops : Array Oper} {f : Nat → AV} {K : Prop} {G : (Nat → AV) → Prop}
theorem chain_nil (k : G f) : Chain P K N X h ops [] f G := k
theorem chain_pure {o : Oper} {rest : List Oper} (av : AV) (hg : o.guard = none) (hp : PureOp P K N X h f o av) (k : Chain P K N X h ops rest (putT N f o.dst av) G) : Chain P K N X h ops (o :: rest) f G := ⟨av, .inl ⟨hg, hp⟩, k⟩
theorem chain_wanted {o : Oper} {rest : List Oper} {j : Nat} {b : Bool} {t : Nat} (av : AV) (hg : o.guard = some (j, b)) (hj : (ops[j]?).bind (·.dst) = some t) (ht : f t = .x (.bool b))
    (hp : PureOp P K N X h f o av) (k : Chain P K N X h ops rest (putT N f o.dst av) G) : Chain P K N X h ops (o :: rest) f G := ⟨av, .inr (.inl ⟨j, b, b, t, hg, hj, ht, fun _ => hp, fun h => absurd rfl h⟩), k⟩
theorem chain_unwanted {o : Oper} {rest : List Oper} {j : Nat} {b b' : Bool} {t : Nat} (hg : o.guard = some (j, b)) (hj : (ops[j]?).bind (·.dst) = some t) (ht : f t = .x (.bool b')) (hb : b' ≠ b)
    (k : Chain P K N X h ops rest (putT N f o.dst .any) G) : Chain P K N X h ops (o :: rest) f G := ⟨.any, .inr (.inl ⟨j, b, b', t, hg, hj, ht, fun h => absurd h hb, fun _ => .inl rfl⟩), k⟩
theorem chain_unwantedx {o : Oper} {rest : List Oper} {j : Nat} {b b' : Bool} {t : Nat} (hg : o.guard = some (j, b)) (hj : (ops[j]?).bind (·.dst) = some t) (ht : f t = .x (.bool b')) (hb : b' ≠ b)
    (k : Chain P K N X h ops rest (putT N f o.dst (.x undef)) G) : Chain P K N X h ops (o :: rest) f G := ⟨.x undef, .inr (.inl ⟨j, b, b', t, hg, hj, ht, fun h => absurd h hb, fun _ => .inr rfl⟩), k⟩
theorem chain_nonex {o : Oper} {rest : List Oper} {j : Nat} {b : Bool} {t : Nat} (hg : o.guard = some (j, b)) (hj : (ops[j]?).bind (·.dst) = some t) (ht : f t = .x undef)
    (k : Chain P K N X h ops rest (putT N f o.dst (.x undef)) G) : Chain P K N X h ops (o :: rest) f G := ⟨.x undef, .inr (.inr ⟨j, b, t, hg, hj, ht, rfl⟩), k⟩
theorem Chain.imp {G' : (Nat → AV) → Prop} (hk : ∀ f, G f → G' f) : ∀ {l : List Oper} {f : Nat → AV}, Chain P K N X h ops l f G → Chain P K N X h ops l f G'
  | [], _, k => hk _ k
  | _ :: _, _, ⟨av, hp, k⟩ => ⟨av, hp, Chain.imp hk k⟩

/-- The chain's frames and values. -/
theorem Chain.steps : ∀ {l : List Oper} {f : Nat → AV}, Chain P K N X h ops l f G → ∃ (fs : Nat → Nat → AV) (vs : Nat → AV), fs 0 = f ∧ G (fs l.length) ∧
    ∀ (i : Nat) (o : Oper), l[i]? = some o → PureG P K N X h ops (fs i) o (vs i) ∧ fs (i + 1) = putT N (fs i) o.dst (vs i)
  | [], f, k => ⟨fun _ => f, fun _ => .any, rfl, k, fun i o hi => by simp at hi⟩
  | o :: rest, f, ⟨av, hp, k⟩ => by
    obtain ⟨fs, vs, h0, hk, hs⟩ := Chain.steps k
    refine ⟨fun i => match i with | 0 => f | i + 1 => fs i, fun i => match i with | 0 => av | i + 1 => vs i, rfl, hk, fun i p hi => ?_⟩
    cases i with
    | zero =>
      obtain rfl : o = p := by simpa using hi
      exact ⟨hp, h0⟩
    | succ i => exact hs i p (by simpa using hi)
end

def memE (l : Array Edge) (j : Nat) : Bool := l.any fun e => Nat.beq e.on j && Region.binds .any e
/-- The first n operations wait for what they read; those behind them wait for all before. -/
def drawOk (ops : Array Oper) (n N : Nat) : Bool :=
  let l := ops.toList.zipIdx
  Nat.ble n ops.size &&
  l.all (fun p => p.1.after.all fun e => Nat.blt e.on p.2) &&
  l.all (fun p => if Nat.blt p.2 n then
      (match p.1.dst with | some d => Nat.blt d N && l.all (fun q => Nat.beq q.2 p.2 || !(Nat.blt q.2 n) || !(match q.1.dst with | some d' => Nat.beq d' d | none => false)) | none => true) &&
      ((opRds p.1 ++ (match p.1.guard with | some (g, _) => ((ops[g]?).bind (·.dst)).toList | none => [])).all fun t =>
        l.all fun q => !(Nat.blt q.2 n) || !(match q.1.dst with | some d => Nat.beq d t | none => false) || (Nat.blt q.2 p.2 && memE p.1.after q.2))
    else (List.range p.2).all fun q => memE p.1.after q)

structure DrawOk (ops : Array Oper) (n N : Nat) : Prop where
  le : n ≤ ops.size
  down : ∀ (i : Nat) (o : Oper), ops[i]? = some o → ∀ e ∈ o.after, e.on < i
  lt : ∀ (i : Nat) (o : Oper) d, i < n → ops[i]? = some o → o.dst = some d → d < N
  uniq : ∀ (i j : Nat) (o p : Oper) d, i < n → j < n → ops[i]? = some o → ops[j]? = some p → o.dst = some d → p.dst = some d → i = j
  reads : ∀ (i j : Nat) (o p : Oper) t, i < n → j < n → ops[i]? = some o → ops[j]? = some p → p.dst = some t → (t ∈ opRds o ∨ ∃ g b, o.guard = some (g, b) ∧ (ops[g]?).bind (·.dst) = some t) → j < i ∧ ∃ e ∈ o.after, e.on = j ∧ Region.binds .any e = true
  tail : ∀ (i j : Nat) (o : Oper), n ≤ i → j < i → ops[i]? = some o → ∃ e ∈ o.after, e.on = j ∧ Region.binds .any e = true

theorem memE_spec {l : Array Edge} {j : Nat} (h : memE l j = true) : ∃ e ∈ l, e.on = j ∧ Region.binds .any e = true := by
  unfold memE at h
  rw [Array.any_eq_true'] at h
  obtain ⟨e, he, h⟩ := h
  simp only [Bool.and_eq_true] at h
  exact ⟨e, he, Nat.eq_of_beq_eq_true h.1, h.2⟩

theorem drawOk_spec {ops : Array Oper} {n N : Nat} (h : drawOk ops n N = true) : DrawOk ops n N := by
  simp only [drawOk, Bool.and_eq_true, List.all_eq_true] at h
  obtain ⟨⟨h1, h2⟩, h3⟩ := h
  have mem : ∀ (i : Nat) (o : Oper), ops[i]? = some o → (o, i) ∈ ops.toList.zipIdx := fun i o ho => by
    rw [List.mem_zipIdx_iff_getElem?]
    simpa using ho
  have blt : ∀ {a b : Nat}, Nat.blt a b = true ↔ a < b := fun {a b} => by simp [Nat.blt_eq]
  have beq : ∀ {a b : Nat}, Nat.beq a b = true ↔ a = b := fun {a b} => ⟨Nat.eq_of_beq_eq_true, fun e => by subst e; simp⟩
  refine ⟨Nat.le_of_ble_eq_true h1, ?_, ?_, ?_, ?_, ?_⟩
  · intro i o ho e he
    have := h2 (o, i) (mem i o ho)
    rw [Array.all_eq_true'] at this
    exact blt.1 (this e he)
  · intro i o d hi ho hd
    have := h3 (o, i) (mem i o ho)
    simp only [blt.2 hi, if_true, hd, Bool.and_eq_true] at this
    exact blt.1 this.1.1
  · intro i j o p d hi hj ho hp hd hd'
    have := h3 (o, i) (mem i o ho)
    simp only [blt.2 hi, if_true, hd, Bool.and_eq_true, List.all_eq_true] at this
    have := this.1.2 (p, j) (mem j p hp)
    simp only [blt.2 hj, hd', beq.2 rfl, Bool.not_true, Bool.or_false, Bool.or_eq_true] at this
    exact (beq.1 this).symm
  · intro i j o p t hi hj ho hp hd hr
    have := h3 (o, i) (mem i o ho)
    simp only [blt.2 hi, if_true, Bool.and_eq_true, List.all_eq_true] at this
    have := this.2 t (by
      rw [List.mem_append]
      rcases hr with hr | ⟨g, b, hg, hgd⟩
      · exact .inl hr
      · refine .inr ?_
        simp only [hg, hgd, Option.toList, List.mem_singleton]) (p, j) (mem j p hp)
    simp only [blt.2 hj, hd, beq.2 rfl, Bool.not_true, Bool.false_or, Bool.and_eq_true] at this
    exact ⟨blt.1 this.1, memE_spec this.2⟩
  · intro i j o hi hj ho
    have := h3 (o, i) (mem i o ho)
    have hb : Nat.blt i n = false := by
      cases hh : Nat.blt i n with
      | false => rfl
      | true => exact absurd (blt.1 hh) (by omega)
    simp only [hb, Bool.false_eq_true, if_false, List.all_eq_true] at this
    exact memE_spec (this j (List.mem_range.2 hj))

section
variable {P : Program} {C : Cx} {Q : Exit → AS → Prop} {s : AS}

theorem aw_draw {id : Nat} {ops : Array Oper} (hm : P.follows .mixedOrders = true) (n : Nat) (hok : drawOk ops n C.N = true)
    (hc : Chain P C.w0.K C.N C.X s.h ops (ops.toList.take n) s.t fun f => AWL P C ops Q (ops.toList.drop n) ⟨f, s.h⟩) : AW P C (.region id ops true) Q s := by
  intro a0 w00 hs0
  have ok := drawOk_spec hok
  clear hok
  obtain ⟨fs, vs, hf0, hK, hstep⟩ := hc.steps
  have hlen : (ops.toList.take n).length = n := by rw [List.length_take, Array.length_toList]; exact Nat.min_eq_left ok.le
  rw [hlen] at hK
  have hget : ∀ i, i < n → ∀ (o : Oper), ops[i]? = some o → (ops.toList.take n)[i]? = some o := fun i hi o ho => by
    rw [List.getElem?_take, if_pos hi]; simpa using ho
  -- what the chain's frames hold
  have keep : ∀ t, (∀ (j : Nat) (p : Oper), j < n → ops[j]? = some p → p.dst ≠ some t) → ∀ i, i ≤ n → fs i t = s.t t := by
    intro t ht i
    induction i with
    | zero => intro _; rw [hf0]
    | succ i ih =>
      intro hi
      have hlt : i < ops.size := Nat.lt_of_lt_of_le (by omega) ok.le
      have ho : ops[i]? = some ops[i] := Array.getElem?_eq_getElem hlt
      rw [(hstep i _ (hget i (by omega) _ ho)).2]
      have hne := ht i _ (by omega) ho
      cases hd : ops[i].dst with
      | none => exact ih (by omega)
      | some d =>
        rw [hd] at hne
        have hne : t ≠ d := fun e => hne (by rw [e])
        show (bif Nat.blt d C.N then upd (fs i) d (vs i) else fs i) t = _
        cases Nat.blt d C.N with
        | true => simp only [cond_true]; rw [upd_ne _ _ hne]; exact ih (by omega)
        | false => exact ih (by omega)
  have holds : ∀ (j : Nat) (p : Oper) t, j < n → ops[j]? = some p → p.dst = some t → ∀ i, j < i → i ≤ n → fs i t = vs j := by
    intro j p t hj hp hd i
    induction i with
    | zero => intro h; omega
    | succ i ih =>
      intro h1 h2
      have hlt : i < ops.size := Nat.lt_of_lt_of_le (by omega) ok.le
      have ho : ops[i]? = some ops[i] := Array.getElem?_eq_getElem hlt
      rw [(hstep i _ (hget i (by omega) _ ho)).2]
      by_cases hij : i = j
      · subst hij
        rw [hp] at ho
        obtain rfl : p = ops[i] := by injection ho
        have hb : Nat.blt t C.N = true := by simpa [Nat.blt_eq] using ok.lt i _ t hj hp hd
        rw [hd]
        show (bif Nat.blt t C.N then upd (fs i) t (vs i) else fs i) t = _
        rw [hb]; simp only [cond_true]; rw [upd_same]
      · have := ih (by omega) (by omega)
        cases hd' : ops[i].dst with
        | none => exact this
        | some d =>
          have hne : t ≠ d := fun e => hij (ok.uniq i j _ _ d (by omega) hj ho hp hd' (by rw [hd, e]))
          show (bif Nat.blt d C.N then upd (fs i) d (vs i) else fs i) t = _
          cases Nat.blt d C.N with
          | true => simp only [cond_true]; rw [upd_ne _ _ hne]; exact this
          | false => exact this
  -- the invariant
  let w1 : World := { w00 with drawn := w00.drawn + 1 }
  have hbw : Bl C.w0.K w00 w1 := ⟨⟨rfl, rfl, rfl, Nat.le_refl _, fun _ _ => rfl⟩, fun _ => Nat.le_succ _⟩
  have hs1 : C.St s a0 w1 := hs0.below_ hbw
  let A : Array Bool → Act → World → Prop := fun listed a w =>
    listed.size = ops.size ∧ Bl C.w0.K w1 w ∧ a.defers = [] ∧ a.tmps.size = C.N ∧
    (∀ t, (∀ (j : Nat) (p : Oper), j < n → ops[j]? = some p → p.dst ≠ some t) → Rep (owned C.X s.h) w (s.t t) (a.tmps.getD t undef)) ∧
    (∀ (j : Nat) (p : Oper) t, j < n → ops[j]? = some p → p.dst = some t → listed.getD j false = true → Rep (owned C.X s.h) w (vs j) (a.tmps.getD t undef)) ∧
    ∀ j, n ≤ j → listed.getD j false = false
  let B : Array Bool → Act → World → Prop := fun listed a w =>
    listed.size = ops.size ∧ ∃ k, n ≤ k ∧ k ≤ ops.size ∧ (∀ j, j < k → listed.getD j false = true) ∧ (∀ j, k ≤ j → listed.getD j false = false) ∧ wpList P ops (up C Q) (ops.toList.drop k) a w
  -- all of the first ones have come up
  have full : ∀ listed a w, A listed a w → (∀ j, j < n → listed.getD j false = true) → C.St ⟨fs n, s.h⟩ a w := by
    intro listed a w ⟨h1, h2, h3, h4, h5, h6, h7⟩ hall
    refine ⟨hs1.env.below_ h2, h3, h4, fun t => ?_⟩
    by_cases ht : ∃ (j : Nat) (p : Oper), j < n ∧ ops[j]? = some p ∧ p.dst = some t
    · obtain ⟨j, p, hj, hp, hd⟩ := ht
      show Rep _ _ (fs n t) _
      rw [holds j p t hj hp hd n hj (Nat.le_refl _)]
      exact h6 j p t hj hp hd (hall j hj)
    · have ht' : ∀ (j : Nat) (p : Oper), j < n → ops[j]? = some p → p.dst ≠ some t := fun j p hj hp hd => ht ⟨j, p, hj, hp, hd⟩
      show Rep _ _ (fs n t) _
      rw [keep t ht' n (Nat.le_refl _)]
      exact h5 t ht'
  have stepB : ∀ listed a w i, B listed a w → i ∈ Region.ready .any ops listed → wpOp P ops (up C Q) i (fun a w => A (listed.setIfInBounds i true) a w ∨ B (listed.setIfInBounds i true) a w) a w := by
    intro listed a w i ⟨hsz, k, h1, h2, h3, h4, h5⟩ hi
    obtain ⟨h0, o, ho, hall⟩ := mem_ready.1 hi
    have hlt : i < ops.size := (Array.getElem?_eq_some_iff.1 ho).1
    have hki : k ≤ i := by
      rcases Nat.lt_or_ge i k with h | h
      · have := h3 i h
        have hl : i < listed.size := by omega
        simp [hl] at this h0
        rw [this] at h0; cases h0
      · exact h
    obtain rfl : i = k := by
      rcases Nat.lt_or_ge k i with h | h
      · obtain ⟨e, he, hj, hb⟩ := ok.tail i k o (by omega) h ho
        have := hall e he hb
        rw [hj, h4 k (Nat.le_refl _)] at this; cases this
      · omega
    have hd : ops.toList.drop i = o :: ops.toList.drop (i + 1) := by
      have hl : i < ops.toList.length := by simpa using hlt
      rw [List.drop_eq_getElem_cons hl]
      congr 1
      have := (Array.getElem?_eq_some_iff.1 ho).2
      simpa using this
    rw [hd] at h5
    have h5' : wpOp P ops (up C Q) i (wpList P ops (up C Q) (ops.toList.drop (i + 1))) a w := by
      unfold wpOp
      rw [ho]
      exact h5
    refine wpOp_mono (fun a' w' h => .inr ⟨by simpa using hsz, i + 1, by omega, by omega, fun j hj => ?_, fun j hj => ?_, h⟩) h5'
    · by_cases hij : j = i
      · subst hij; have : j < listed.size := by omega
        simp [this]
      · rw [getD_set_ne false (Ne.symm hij)]; exact h3 j (by omega)
    · rw [getD_set_ne false (by omega)]; exact h4 j (by omega)
  refine wp_region_any hm (wpAny_inv (md := .any) (fun listed a w => A listed a w ∨ B listed a w) ?_ ?_ ops.size _ a0 w1 ?_ ?_)
  · intro listed a w i hJ hi
    rcases hJ with hA | hB
    · have hA' := hA
      obtain ⟨h0, o, ho, hall⟩ := mem_ready.1 hi
      obtain ⟨h1, h2, h3, h4, h5, h6, h7⟩ := hA
      by_cases hin : i < n
      · -- one of the first
        obtain ⟨hp, hfs⟩ := hstep i o (hget i hin o ho)
        have env : Env C.X C.w0 s.h w := hs1.env.below_ h2
        have reads : ∀ t, (t ∈ opRds o ∨ ∃ g b, o.guard = some (g, b) ∧ (ops[g]?).bind (·.dst) = some t) → Rep (owned C.X s.h) w (fs i t) (a.tmps.getD t undef) := by
          intro t ht
          by_cases hw : ∃ (j : Nat) (p : Oper), j < n ∧ ops[j]? = some p ∧ p.dst = some t
          · obtain ⟨j, p, hj, hp, hd⟩ := hw
            obtain ⟨hji, e, he, hej, hb⟩ := ok.reads i j o p t hin hj ho hp hd ht
            rw [holds j p t hj hp hd i hji (Nat.le_of_lt hin)]
            exact h6 j p t hj hp hd (by have := hall e he hb; rwa [hej] at this)
          · have ht' : ∀ (j : Nat) (p : Oper), j < n → ops[j]? = some p → p.dst ≠ some t := fun j p hj hp hd => hw ⟨j, p, hj, hp, hd⟩
            rw [keep t ht' i (Nat.le_of_lt hin)]
            exact h5 t ht'
        have fin : ∀ v w', Bl C.w0.K w w' → Rep (owned C.X s.h) w' (vs i) v → A (listed.setIfInBounds i true) (a.put o.dst v) w' := by
          intro v w' hb hr
          have mono : ∀ {c : AV} {u : Value}, Rep (owned C.X s.h) w c u → Rep (owned C.X s.h) w' c u := fun h => Rep.mono (Kept.of_below hb.b) (fun _ _ h => h) _ _ h
          refine ⟨by simpa using h1, h2.trans hb, ?_, ?_, fun t ht => ?_, fun j p t hj hp hd hl => ?_, fun j hj => ?_⟩
          · cases o.dst <;> exact h3
          · cases o.dst <;> simpa [Act.put] using h4
          · have := mono (h5 t ht)
            cases hd : o.dst with
            | none => exact this
            | some d =>
              have hne : d ≠ t := fun e => ht i o hin ho (by rw [hd, e])
              simpa [Act.put, Array.getElem?_setIfInBounds_ne hne] using this
          · by_cases hij : i = j
            · subst hij
              rw [ho] at hp
              obtain rfl : o = p := by injection hp
              have hlt : t < a.tmps.size := by rw [h4]; exact ok.lt i o t hin ho hd
              rw [hd]
              simpa [Act.put, hlt] using hr
            · rw [getD_set_ne false hij] at hl
              have := mono (h6 j p t hj hp hd hl)
              cases hd' : o.dst with
              | none => exact this
              | some d =>
                have hne : d ≠ t := fun e => hij (ok.uniq i j o p d hin hj ho hp hd' (by rw [hd, e]))
                simpa [Act.put, Array.getElem?_setIfInBounds_ne hne] using this
          · rw [getD_set_ne false (by omega)]; exact h7 j hj
        unfold wpOp
        rw [ho]
        simp only []
        rcases hp with ⟨hg, hp⟩ | ⟨g, b, b', t, hg, hgd, hft, hy, hn⟩ | ⟨g, b, t, hg, hgd, hft, hav⟩
        · rw [wanted_none hg]
          exact .inl (hp a w C.w0 rfl env h4 (fun t ht => reads t (.inl ht)) _ _ fun v w' hb hr => .inl (fin v w' hb hr))
        · have hr := reads t (.inr ⟨g, b, hg, hgd⟩)
          rw [hft] at hr
          simp only [Rep] at hr
          have hyl := yield_bool hgd hr
          by_cases hbb : b' = b
          · subst hbb
            rw [show Region.wanted o (yielded ops a.tmps) = true by simp [Region.wanted, hg, hyl]]
            exact .inl (hy rfl a w C.w0 rfl env h4 (fun t ht => reads t (.inl ht)) _ _ fun v w' hb hr => .inl (fin v w' hb hr))
          · rw [show Region.wanted o (yielded ops a.tmps) = false by simp [Region.wanted, hg, hyl, hbb]]
            exact .inl (fin undef w (Bl.refl _ _) (by
              rcases hn hbb with e | e
              · rw [e]; exact undef_rep
              · rw [e]; simp only [Rep]))
        · have hr := reads t (.inr ⟨g, b, hg, hgd⟩)
          rw [hft] at hr
          simp only [Rep] at hr
          have hyl : yielded ops a.tmps g = none := by
            unfold yielded
            rw [hgd]
            show (match a.tmps[t]? with | some (.bool b) => some b | _ => none) = none
            rw [Array.getD_eq_getD_getElem?] at hr
            cases hh : a.tmps[t]? with
            | none => rfl
            | some v => rw [hh] at hr; obtain rfl : v = undef := hr; rfl
          rw [show Region.wanted o (yielded ops a.tmps) = false by simp [Region.wanted, hg, hyl]]
          exact .inl (fin undef w (Bl.refl _ _) (by rw [hav]; simp only [Rep]))
      · -- the first of those behind
        have hall' : ∀ j, j < i → listed.getD j false = true := fun j hj => by
          obtain ⟨e, he, hej, hb⟩ := ok.tail i j o (by omega) hj ho
          have := hall e he hb
          rwa [hej] at this
        have hni : i = n := by
          rcases Nat.lt_or_ge n i with h | h
          · have := hall' n h
            rw [h7 n (Nat.le_refl _)] at this; cases this
          · omega
        subst hni
        have hst := full listed a w hA' hall'
        have hwl := hK a w hst
        exact stepB listed a w i ⟨h1, i, Nat.le_refl _, ok.le, hall', h7, hwl⟩ hi
    · exact stepB listed a w i hB hi
  · intro listed a w hJ hr
    have hsz : listed.size = ops.size := by rcases hJ with h | h <;> exact h.1
    have hall := all_listed ok.down hsz hr
    rcases hJ with hA | ⟨_, k, h1, h2, h3, h4, h5⟩
    · have hn : n = ops.size := by
        rcases Nat.lt_or_ge n ops.size with h | h
        · have := hall n h
          rw [hA.2.2.2.2.2.2 n (Nat.le_refl _)] at this; cases this
        · have := ok.le; omega
      have hwl := hK a w (full listed a w hA fun j hj => hall j (by omega))
      have e : ops.toList.drop n = [] := by rw [hn]; exact List.drop_eq_nil_of_le (by simp)
      rw [e] at hwl
      exact hwl
    · have hk : k = ops.size := by
        rcases Nat.lt_or_ge k ops.size with h | h
        · have := hall k h
          rw [h4 k (Nat.le_refl _)] at this; cases this
        · omega
      have e : ops.toList.drop k = [] := by rw [hk]; exact List.drop_eq_nil_of_le (by simp)
      rw [e] at h5
      exact h5
  · unfold unl
    have := List.length_filter_le (fun i => !(Array.replicate ops.size false).getD i true) (List.range ops.size)
    simpa using this
  · refine .inl ⟨by simp, Bl.refl _ _, hs1.slots.defers, hs1.slots.size, fun t _ => hs1.slots.slot t, fun j p t hj hp hd hl => ?_, fun j hj => ?_⟩
    · have hlt : j < ops.size := (Array.getElem?_eq_some_iff.1 hp).1
      simp [hlt] at hl
    · rw [Array.getD_eq_getD_getElem?]
      by_cases hlt : j < ops.size
      · simp [hlt]
      · simp [hlt]
end
end Go.Proofs.YtmhkalalcmkpbaaGreat
