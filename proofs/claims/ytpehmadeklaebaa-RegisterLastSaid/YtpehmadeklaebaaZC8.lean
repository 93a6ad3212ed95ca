/-
  C7 C8
-/
import Derived.Test.YtpehmadeklaebaaZC6
namespace Go.Proofs.Ytpehmadeklaebaa
open Go Go.RowKit
set_option linter.unusedVariables false
section
variable {m : Option (List Oper)} {P : Program} {C : Cx} {Q : Exit → AS → Prop} {f : Nat → AV} {h : List HObj} {ops : Array Oper} {o : Oper} {rest : List Oper}
end
end Go.Proofs.Ytpehmadeklaebaa

namespace Go.Proofs.Ytpehmadeklaebaa
open Go Go.RowKit
set_option linter.unusedVariables false
set_option linter.unusedSimpArgs false

/-- A call that turns own blocks hA into hB. -/
def MStep (P : Program) (C : Cx) (hA hB : List HObj) (f : Nat → AV) (o : Oper) (av : AV) : Prop :=
  ∀ (a : Act) (w : World), Env C.X C.w0 hA w → a.tmps.size = C.N → (∀ t ∈ opRds o, Rep (owned C.X hA) w (f t) (a.tmps.getD t undef)) →
    ∀ (next : Act → World → Prop) (Q : Exit → Act → World → Prop), (∀ v w', Env C.X C.w0 hB w' → Kept (owned C.X hA) w w' → Rep (owned C.X hB) w' av v → next (a.put o.dst v) w') → o.wp P a w next Q

section
variable {P : Program} {C : Cx} {Q : Exit → AS → Prop} {f : Nat → AV} {o : Oper}
end


theorem owned_map {X : Nat → Prop} {h h' : List HObj} (e : h.map HObj.blk = h'.map HObj.blk) : owned X h = owned X h' := by
  funext b
  refine propext ?_
  have key : ∀ {l : List HObj}, (∃ o ∈ l, o.blk = some b) ↔ some b ∈ l.map HObj.blk := by
    intro l; rw [List.mem_map]
  unfold owned
  rw [key, key, e]
theorem owned_permE {X : Nat → Prop} {h h' : List HObj} (e : h.Perm h') : owned X h = owned X h' := by
  funext b
  refine propext ?_
  unfold owned
  constructor
  · rintro (g | ⟨o, ho, hb⟩)
    · exact .inl g
    · exact .inr ⟨o, e.mem_iff.1 ho, hb⟩
  · rintro (g | ⟨o, ho, hb⟩)
    · exact .inl g
    · exact .inr ⟨o, e.mem_iff.2 ho, hb⟩
/-- It waits for q, by however many steps. -/
def memT (ops : Array Oper) : Nat → Nat → Nat → Bool
  | 0, _, _ => false
  | f + 1, i, q => match ops[i]? with | some o => o.after.toList.any fun e => Region.binds .any e && (Nat.beq e.on q || memT ops f e.on q) | none => false
/-- What has come up, and what it waited for. -/
def Dn (ops : Array Oper) (listed : Array Bool) : Prop := ∀ (i : Nat) (o : Oper), ops[i]? = some o → listed.getD i false = true → ∀ e ∈ o.after, Region.binds .any e = true → listed.getD e.on false = true
theorem memT_listed {ops : Array Oper} {listed : Array Bool} (hd : Dn ops listed) : ∀ (f i q : Nat) (o : Oper), ops[i]? = some o → (∀ e ∈ o.after, Region.binds .any e = true → listed.getD e.on false = true) → memT ops f i q = true → listed.getD q false = true
  | 0, i, q, o, _, _, h => by cases h
  | f + 1, i, q, o, ho, hall, h => by
    simp only [memT, ho, List.any_eq_true, Bool.and_eq_true, Bool.or_eq_true] at h
    obtain ⟨e, he, hb, h⟩ := h
    have he' : e ∈ o.after := by simpa using he
    have hl := hall e he' hb
    rcases h with h | h
    · rw [← Nat.eq_of_beq_eq_true h]; exact hl
    · cases f with
      | zero => cases h
      | succ f =>
        cases ho' : ops[e.on]? with
        | none => simp only [memT, ho'] at h; cases h
        | some o' => exact memT_listed hd (f + 1) e.on q o' ho' (fun e2 he2 hb2 => hd e.on o' ho' hl e2 he2 hb2) h
theorem dn_start (ops : Array Oper) (n : Nat) : Dn ops (Array.replicate n false) := fun i o _ hl => by
  rw [Array.getD_eq_getD_getElem?] at hl
  by_cases h : i < n
  · simp [h] at hl
  · simp [h] at hl
theorem dn_step {ops : Array Oper} {listed : Array Bool} {i : Nat} (hd : Dn ops listed) (hi : i ∈ Region.ready .any ops listed) : Dn ops (listed.setIfInBounds i true) := by
  obtain ⟨h0, o, ho, hall⟩ := mem_ready.1 hi
  have keep : ∀ j, listed.getD j false = true → (listed.setIfInBounds i true).getD j false = true := fun j hj => by
    by_cases hij : i = j
    · subst hij
      rw [Array.getD_eq_getD_getElem?] at hj ⊢
      by_cases h : i < listed.size
      · simp [h]
      · simp [h] at hj
    · rw [getD_set_ne false hij]; exact hj
  intro j p hp hl e he hb
  by_cases hij : i = j
  · subst hij
    rw [ho] at hp
    obtain rfl : o = p := by injection hp
    exact keep _ (hall e he hb)
  · rw [getD_set_ne false hij] at hl
    exact keep _ (hd j p hp hl e he hb)
/-- The first n operations wait for what they read; those behind them wait for all before. -/
def drawOkB (ops : Array Oper) (n N : Nat) : Bool :=
  let l := ops.toList.zipIdx
  Nat.ble n ops.size &&
  l.all (fun p => p.1.after.all fun e => Nat.blt e.on p.2 || !(Region.binds .any e)) &&
  l.all (fun p => if Nat.blt p.2 n then
      (match p.1.dst with | some d => Nat.blt d N && l.all (fun q => Nat.beq q.2 p.2 || !(Nat.blt q.2 n) || !(match q.1.dst with | some d' => Nat.beq d' d | none => false)) | none => true) &&
      ((opRds p.1 ++ (match p.1.guard with | some (g, _) => ((ops[g]?).bind (·.dst)).toList | none => [])).all fun t =>
        l.all fun q => !(Nat.blt q.2 n) || !(match q.1.dst with | some d => Nat.beq d t | none => false) || (Nat.blt q.2 p.2 && memE p.1.after q.2))
    else (List.range p.2).all fun q => memT ops ops.size p.2 q)

structure DrawOkB (ops : Array Oper) (n N : Nat) : Prop where
  le : n ≤ ops.size
  down : ∀ (i : Nat) (o : Oper), ops[i]? = some o → ∀ e ∈ o.after, Region.binds .any e = true → e.on < i
  lt : ∀ (i : Nat) (o : Oper) d, i < n → ops[i]? = some o → o.dst = some d → d < N
  uniq : ∀ (i j : Nat) (o p : Oper) d, i < n → j < n → ops[i]? = some o → ops[j]? = some p → o.dst = some d → p.dst = some d → i = j
  reads : ∀ (i j : Nat) (o p : Oper) t, i < n → j < n → ops[i]? = some o → ops[j]? = some p → p.dst = some t → (t ∈ opRds o ∨ ∃ g b, o.guard = some (g, b) ∧ (ops[g]?).bind (·.dst) = some t) → j < i ∧ ∃ e ∈ o.after, e.on = j ∧ Region.binds .any e = true
  tail : ∀ (i j : Nat) (o : Oper), n ≤ i → j < i → ops[i]? = some o → memT ops ops.size i j = true

theorem drawOkB_spec {ops : Array Oper} {n N : Nat} (h : drawOkB ops n N = true) : DrawOkB ops n N := by
  simp only [drawOkB, Bool.and_eq_true, List.all_eq_true] at h
  obtain ⟨⟨h1, h2⟩, h3⟩ := h
  have mem : ∀ (i : Nat) (o : Oper), ops[i]? = some o → (o, i) ∈ ops.toList.zipIdx := fun i o ho => by
    rw [List.mem_zipIdx_iff_getElem?]
    simpa using ho
  have blt : ∀ {a b : Nat}, Nat.blt a b = true ↔ a < b := fun {a b} => by simp [Nat.blt_eq]
  have beq : ∀ {a b : Nat}, Nat.beq a b = true ↔ a = b := fun {a b} => ⟨Nat.eq_of_beq_eq_true, fun e => by subst e; simp⟩
  refine ⟨Nat.le_of_ble_eq_true h1, ?_, ?_, ?_, ?_, ?_⟩
  · intro i o ho e he hbd
    have := h2 (o, i) (mem i o ho)
    rw [Array.all_eq_true'] at this
    have := this e he
    rw [hbd] at this
    exact blt.1 (by simpa using this)
  · intro i o d hi ho hd
    have := h3 (o, i) (mem i o ho)
    simp only [blt.2 hi, if_true, hd, Bool.and_eq_true] at this
    exact blt.1 this.1.1
  · intro i j o p d hi hj ho hp hd hd'
    have := h3 (o, i) (mem i o ho)
    simp only [blt.2 hi, if_true, hd, Bool.and_eq_true, List.all_eq_true] at this
    have := this.1.2 (p, j) (mem j p hp)
    simp only [blt.2 hj, hd', beq.2 rfl, Bool.not_true, Bool.or_false, Bool.or_eq_true] at this
    exact (beq.1 this).symm
  · intro i j o p t hi hj ho hp hd hr
    have := h3 (o, i) (mem i o ho)
    simp only [blt.2 hi, if_true, Bool.and_eq_true, List.all_eq_true] at this
    have := this.2 t (by
      rw [List.mem_append]
      rcases hr with hr | ⟨g, b, hg, hgd⟩
      · exact .inl hr
      · refine .inr ?_
        simp only [hg, hgd, Option.toList, List.mem_singleton]) (p, j) (mem j p hp)
    simp only [blt.2 hj, hd, beq.2 rfl, Bool.not_true, Bool.false_or, Bool.and_eq_true] at this
    exact ⟨blt.1 this.1, memE_spec this.2⟩
  · intro i j o hi hj ho
    have := h3 (o, i) (mem i o ho)
    have hb : Nat.blt i n = false := by
      cases hh : Nat.blt i n with
      | false => rfl
      | true => exact absurd (blt.1 hh) (by omega)
    simp only [hb, Bool.false_eq_true, if_false, List.all_eq_true] at this
    exact this j (List.mem_range.2 hj)

theorem all_listedB {ops : Array Oper} {listed : Array Bool} (hw : ∀ (i : Nat) (o : Oper), ops[i]? = some o → ∀ e ∈ o.after, Region.binds .any e = true → e.on < i) (hs : listed.size = ops.size)
    (hr : Region.ready .any ops listed = []) : ∀ i, i < ops.size → listed.getD i false = true := by
  intro i
  induction i using Nat.strongRecOn with
  | _ i ih =>
    intro hi
    cases hl : listed.getD i false with
    | true => rfl
    | false =>
      exfalso
      have hlt : i < listed.size := by omega
      have h0 : listed.getD i true = false := by simpa [hlt] using hl
      have hm : i ∈ Region.ready .any ops listed := mem_ready.2 ⟨h0, ops[i], Array.getElem?_eq_getElem hi, fun e he hb => by
        have := hw i ops[i] (Array.getElem?_eq_getElem hi) e he hb
        exact ih e.on this (by omega)⟩
      rw [hr] at hm
      cases hm

section
variable {P : Program} {C : Cx} {f : Nat → AV} {o : Oper} {h : List HObj}
end

abbrev IA := Option (Nat × TypeId × List Value)
def iaIs (ia : IA) (i : Nat) : Bool := match ia with | some p => Nat.beq p.1 i | none => false

def ChainM (P : Program) (C : Cx) (H : Nat → List HObj) (ia : IA) (ops : Array Oper) (ms : List Nat) : Nat → List Oper → (Nat → AV) → ((Nat → AV) → Prop) → Prop
  | _, [], f, G => G f
  | i, o :: rest, f, G => ∃ av, ((i ∉ ms ∧ iaIs ia i = false ∧ ∀ k, k ≤ ms.length → ∀ al, PureG P C.w0.K C.N C.X (H k ++ al) ops f o av) ∨
      (iaIs ia i = false ∧ ∃ m, ms[m]? = some i ∧ o.guard = none ∧ ∀ al, MStep P C (H m ++ al) (H (m + 1) ++ al) f o av) ∨
      (i ∉ ms ∧ o.guard = none ∧ av = .any ∧ ∃ T zs, ia = some (i, T, zs) ∧ o.op = .alloc T ∧ tyZero P T = some zs)) ∧ ChainM P C H ia ops ms (i + 1) rest (putT C.N f o.dst av) G
theorem ChainM.steps {P : Program} {C : Cx} {H : Nat → List HObj} {ia : IA} {ops : Array Oper} {ms : List Nat} {G : (Nat → AV) → Prop} : ∀ {l : List Oper} {i0 : Nat} {f : Nat → AV}, ChainM P C H ia ops ms i0 l f G → ∃ (fs : Nat → Nat → AV) (vs : Nat → AV), fs 0 = f ∧ G (fs l.length) ∧
    ∀ (i : Nat) (o : Oper), l[i]? = some o → ((i0 + i ∉ ms ∧ iaIs ia (i0 + i) = false ∧ ∀ k, k ≤ ms.length → ∀ al, PureG P C.w0.K C.N C.X (H k ++ al) ops (fs i) o (vs i)) ∨
      (iaIs ia (i0 + i) = false ∧ ∃ m, ms[m]? = some (i0 + i) ∧ o.guard = none ∧ ∀ al, MStep P C (H m ++ al) (H (m + 1) ++ al) (fs i) o (vs i)) ∨
      (i0 + i ∉ ms ∧ o.guard = none ∧ vs i = .any ∧ ∃ T zs, ia = some (i0 + i, T, zs) ∧ o.op = .alloc T ∧ tyZero P T = some zs)) ∧ fs (i + 1) = putT C.N (fs i) o.dst (vs i)
  | [], i0, f, k => ⟨fun _ => f, fun _ => .any, rfl, k, fun i o hi => by simp at hi⟩
  | o :: rest, i0, f, ⟨av, hp, k⟩ => by
    obtain ⟨fs, vs, h0, hk, hs⟩ := ChainM.steps k
    refine ⟨fun i => match i with | 0 => f | i + 1 => fs i, fun i => match i with | 0 => av | i + 1 => vs i, rfl, hk, fun i p hi => ?_⟩
    cases i with
    | zero =>
      obtain rfl : o = p := by simpa using hi
      exact ⟨hp, h0⟩
    | succ i =>
      have := hs i p (by simpa using hi)
      rw [show i0 + 1 + i = i0 + (i + 1) by omega] at this
      exact this
theorem ChainM.imp {P : Program} {C : Cx} {H : Nat → List HObj} {ia : IA} {ops : Array Oper} {ms : List Nat} {G G' : (Nat → AV) → Prop} (hk : ∀ f, G f → G' f) : ∀ {l : List Oper} {i : Nat} {f : Nat → AV}, ChainM P C H ia ops ms i l f G → ChainM P C H ia ops ms i l f G'
  | [], _, _, k => hk _ k
  | _ :: _, _, _, ⟨av, hp, k⟩ => ⟨av, hp, ChainM.imp hk k⟩
section
variable {P : Program} {C : Cx} {Q : Exit → AS → Prop} {s : AS}

end

section
variable {P : Program} {C : Cx} {Q : Exit → AS → Prop} {f : Nat → AV} {h : List HObj} {ops : Array Oper} {o : Oper} {rest : List Oper} {H : Nat → List HObj} {ms : List Nat} {i : Nat} {G : (Nat → AV) → Prop}
end
end Go.Proofs.Ytpehmadeklaebaa
