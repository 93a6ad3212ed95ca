/-
  A2
-/
import Derived.Test.YtpehmadeklaebaaZA1
namespace Go.Proofs.Ytpehmadeklaebaa
open Go Go.RowKit
set_option linter.unusedVariables false
set_option linter.unusedSimpArgs false

structure Cx where
  N : Nat
  X : Nat → Prop
  w0 : Orig

abbrev Cx.St (C : Cx) (s : AS) (a : Act) (w : World) : Prop := Go.Proofs.Ytpehmadeklaebaa.St C.N C.X C.w0 s a w
def up (C : Cx) (Q : Exit → AS → Prop) : Exit → Act → World → Prop := fun e a w => ∃ s, C.St s a w ∧ Q e s
def AW (P : Program) (C : Cx) (c : Code) (Q : Exit → AS → Prop) (s : AS) : Prop := ∀ a w, C.St s a w → c.wp P (up C Q) a w
def AWL (P : Program) (C : Cx) (ops : Array Oper) (Q : Exit → AS → Prop) (l : List Oper) (s : AS) : Prop := ∀ a w, C.St s a w → wpList P ops (up C Q) l a w

def thenA (n : AS → Prop) (Q : Exit → AS → Prop) : Exit → AS → Prop
  | .normal, s => n s
  | e, s => Q e s
def inB (id : Nat) (Q : Exit → AS → Prop) : Exit → AS → Prop
  | .exit i, s => bif Nat.beq i id then Q .normal s else Q (.exit i) s
  | e, s => Q e s

section
variable {P : Program} {C : Cx} {Q : Exit → AS → Prop} {s : AS}

theorem aw_mono {c : Code} {Q' : Exit → AS → Prop} (h : AW P C c Q s) (hq : ∀ e s, Q e s → Q' e s) : AW P C c Q' s :=
  fun a w hs => wp_mono (h a w hs) fun e a w ⟨s, h1, h2⟩ => ⟨s, h1, hq e s h2⟩
theorem aw_skip (h : Q .normal s) : AW P C .skip Q s := fun a w hs => wp_skip ⟨s, hs, h⟩
theorem aw_label {l : Nat} (h : Q .normal s) : AW P C (.label l) Q s := fun a w hs => wp_label ⟨s, hs, h⟩
theorem aw_exit {id : Nat} (h : Q (.exit id) s) : AW P C (.exit id) Q s := fun a w hs => wp_exit ⟨s, hs, h⟩
theorem aw_ret (h : Q .ret s) : AW P C .ret Q s := fun a w hs => wp_ret ⟨s, hs, h⟩
theorem aw_seq {x y : Code} (h : AW P C x (thenA (AW P C y Q) Q) s) : AW P C (.seq x y) Q s := fun a w hs =>
  wp_seq (wp_mono (h a w hs) fun e a w ⟨s, h1, h2⟩ => by
    cases e <;> first | exact h2 a w h1 | exact ⟨s, h1, h2⟩)
theorem aw_cond {c : Operand} {x y : Code} {b : Bool} (hc : evalT s.t c = .x (.bool b)) (ht : b = true → AW P C x Q s) (hf : b = false → AW P C y Q s) : AW P C (.cond c x y) Q s := fun a w hs => by
  have h := hs.slots.eval c
  rw [hc] at h
  simp only [Rep] at h
  exact wp_cond_split h (fun e => ht e a w hs) (fun e => hf e a w hs)
theorem aw_block {id : Nat} {c : Code} (h : AW P C c (inB id Q) s) : AW P C (.block id c) Q s := fun a w hs =>
  wp_block (wp_mono (h a w hs) fun e a w ⟨s, h1, h2⟩ => by
    cases e with
    | exit i =>
      simp only [Exit.inBlock]
      simp only [inB] at h2
      by_cases hi : i = id
      · subst hi
        rw [if_pos rfl]
        rw [show Nat.beq i i = true by simp] at h2
        exact ⟨s, h1, h2⟩
      · rw [if_neg hi]
        have : Nat.beq i id = false := by
          cases hh : Nat.beq i id with
          | false => rfl
          | true => exact absurd (Nat.eq_of_beq_eq_true hh) hi
        rw [this] at h2
        exact ⟨s, h1, h2⟩
    | _ => exact ⟨s, h1, h2⟩)

/-- What is known of fewer slots, and of fewer blocks. -/
def Wk (s s' : AS) : Prop := (∃ r, s.h = s'.h ++ r) ∧ ∀ t, s'.t t = .any ∨ s'.t t = s.t t
theorem owned_pre {X : Nat → Prop} {h r : List HObj} {b : Nat} (hb : owned X h b) : owned X (h ++ r) b := by
  rcases hb with hb | ⟨o, ho, hob⟩
  · exact .inl hb
  · exact .inr ⟨o, List.mem_append_left _ ho, hob⟩
theorem Env.pre {X : Nat → Prop} {w0 : Orig} {w : World} {h r : List HObj} (env : Env X w0 (h ++ r) w) : Env X w0 h w where
  below := env.below
  objs o ho := HObj.ok_mono (env.objs o (List.mem_append_left _ ho)) (Kept.refl _ _) (fun b _ hb => owned_pre hb) fun _ _ => rfl
  new o ho := env.new o (List.mem_append_left _ ho)
  lt o ho := env.lt o (List.mem_append_left _ ho)
  ext := env.ext
  apart i j o p b hi hj := env.apart i j o p b (by rw [List.getElem?_append, if_pos (List.getElem?_eq_some_iff.1 hi).1]; exact hi) (by rw [List.getElem?_append, if_pos (List.getElem?_eq_some_iff.1 hj).1]; exact hj)
theorem Wk.st {N : Nat} {X : Nat → Prop} {w0 : Orig} {s s' : AS} {a : Act} {w : World} (h : Wk s s') (hs : St N X w0 s a w) : St N X w0 s' a w := by
  obtain ⟨⟨r, h1⟩, h2⟩ := h
  cases s with | mk t hh =>
  cases s' with | mk t' hh' =>
  simp only at h1 h2
  subst h1
  refine ⟨hs.env.pre, hs.slots.defers, hs.slots.size, fun t => ?_⟩
  rcases h2 t with e | e
  · simp only [e, Rep]
  · simp only [e]; exact Rep.mono (Kept.refl _ _) (fun b _ hb => owned_pre hb) _ _ (hs.slots.slot t)
theorem aw_loop {c : Code} (I : Nat → AS → Prop) (h0 : ∃ m s', I m s' ∧ Wk s s')
    (hr : ∀ m s, I m s → AW P C c (thenA (fun s' => ∃ m' s'', m' < m ∧ I m' s'' ∧ Wk s' s'') Q) s) : AW P C (.loop c) Q s := by
  intro a w hs
  obtain ⟨m0, s0, hi, hw⟩ := h0
  have key : ∀ m s a w, I m s → C.St s a w → ∀ (b : Frame) (k : List Item) (cs : List Frame), ∃ e a' w', up C Q e a' w' ∧ Arrives P (lone (b.at a (.code c :: .inLoop c :: k)) cs w) b k cs e a' w' := by
    intro m
    induction m using Nat.strongRecOn with
    | _ m ih =>
      intro s a w hI hS b k cs
      obtain ⟨e, a₁, w₁, hq, harr⟩ := hr m s hI a w hS b (.inLoop c :: k) cs
      obtain ⟨s₁, hs₁, hq⟩ := hq
      cases e with
      | normal =>
        obtain ⟨m', s'', hlt, hI', hwk⟩ := hq
        obtain ⟨e₂, a₂, w₂, hq₂, harr₂⟩ := ih m' hlt s'' a₁ w₁ hI' (hwk.st hs₁) b k cs
        exact ⟨e₂, a₂, w₂, hq₂, .of_steps (Steps.trans harr (.one step_inLoop)) harr₂⟩
      | exit id => exact ⟨_, a₁, w₁, ⟨s₁, hs₁, hq⟩, .pass (x := .inLoop c) rfl (fun _ _ => .inl (by simp)) harr⟩
      | goto l => exact ⟨_, a₁, w₁, ⟨s₁, hs₁, hq⟩, .pass (x := .inLoop c) rfl (fun _ _ => .inl (by simp)) harr⟩
      | ret => exact ⟨_, a₁, w₁, ⟨s₁, hs₁, hq⟩, .pass (x := .inLoop c) rfl (fun _ _ => .inl (by simp)) harr⟩
      | panic ch => exact ⟨_, a₁, w₁, ⟨s₁, hs₁, hq⟩, .pass (x := .inLoop c) rfl (fun _ _ => .inl (by simp)) harr⟩
      | outgrown => exact ⟨_, a₁, w₁, ⟨s₁, hs₁, hq⟩, .pass (x := .inLoop c) rfl (fun _ _ => .inl (by simp)) harr⟩
  intro b k cs
  obtain ⟨e, a', w', hq, harr⟩ := key m0 s0 a w hi (hw.st hs) b k cs
  exact ⟨e, a', w', hq, .of_steps (.one step_loop) harr⟩

def opRds (o : Oper) : List Nat := o.op.operands.toList.filterMap fun | .tmp t => some t | _ => none

/-- An operation that gives a value, and changes nothing that was there. -/
def PureOp (P : Program) (K : Prop) (N : Nat) (X : Nat → Prop) (h : List HObj) (f : Nat → AV) (o : Oper) (av : AV) : Prop :=
  ∀ (a : Act) (w : World) (w0 : Orig), w0.K = K → Env X w0 h w → a.tmps.size = N → (∀ t ∈ opRds o, Rep (owned X h) w (f t) (a.tmps.getD t undef)) →
    ∀ (next : Act → World → Prop) (Q : Exit → Act → World → Prop), (∀ v w', Bl K w w' → Rep (owned X h) w' av v → next (a.put o.dst v) w') → o.wp P a w next Q

theorem wanted_none {o : Oper} (h : o.guard = none) (y : Nat → Option Bool) : Region.wanted o y = true := by simp [Region.wanted, h]

theorem awl_nil {ops : Array Oper} (h : Q .normal s) : AWL P C ops Q [] s := fun a w hs => ⟨s, hs, h⟩

theorem awl_pure {ops : Array Oper} {o : Oper} {rest : List Oper} (av : AV) (hg : o.guard = none) (hp : PureOp P C.w0.K C.N C.X s.h s.t o av)
    (k : AWL P C ops Q rest ⟨putT C.N s.t o.dst av, s.h⟩) : AWL P C ops Q (o :: rest) s := by
  intro a w hs
  refine wpList_plain hg fun K hK => hp a w C.w0 rfl hs.env hs.slots.size (fun t _ => hs.slots.slot t) K _ fun v w' hb hr => hK _ _ (k _ _ ?_)
  have hs' := hs.below_ hb
  exact ⟨hs'.env, hs'.slots.put o.dst hr⟩

theorem undef_rep {O : Nat → Prop} {w : World} : Rep O w .any undef := by simp only [Rep]

theorem yield_bool {ops : Array Oper} {a : Act} {j t : Nat} {b : Bool} (hj : (ops[j]?).bind (·.dst) = some t) (h : a.tmps.getD t undef = .bool b) : yielded ops a.tmps j = some b := by
  unfold yielded
  rw [hj]
  show (match a.tmps[t]? with | some (.bool b) => some b | _ => none) = some b
  rw [Array.getD_eq_getD_getElem?] at h
  cases hh : a.tmps[t]? with
  | none => rw [hh] at h; cases h
  | some v => rw [hh] at h; obtain rfl : v = .bool b := h; rfl

theorem awl_wanted {ops : Array Oper} {o : Oper} {rest : List Oper} {j : Nat} {b : Bool} {t : Nat} (av : AV) (hg : o.guard = some (j, b)) (hj : (ops[j]?).bind (·.dst) = some t) (ht : s.t t = .x (.bool b)) (hp : PureOp P C.w0.K C.N C.X s.h s.t o av)
    (k : AWL P C ops Q rest ⟨putT C.N s.t o.dst av, s.h⟩) : AWL P C ops Q (o :: rest) s := by
  intro a w hs
  have h := hs.slots.slot t
  rw [ht] at h
  simp only [Rep] at h
  have hw : Region.wanted o (yielded ops a.tmps) = true := by
    have : yielded ops a.tmps j = some b := by
      exact yield_bool hj h
    simp [Region.wanted, hg, this]
  refine wpList_step fun K hK => ?_
  rw [hw]
  refine hp a w C.w0 rfl hs.env hs.slots.size (fun t _ => hs.slots.slot t) K _ fun v w' hb hr => hK _ _ (k _ _ ?_)
  have hs' := hs.below_ hb
  exact ⟨hs'.env, hs'.slots.put o.dst hr⟩

theorem aw_region {id : Nat} {l : List Oper} (h : AWL P C l.toArray Q l s) : AW P C (.region id l.toArray false) Q s := fun a w hs => wp_region_lit (h a w hs)
end
end Go.Proofs.Ytpehmadeklaebaa
