/-
  Inv A1 A2 A3 A4 A5 A6
-/
import Derived.Test.YtmhkalalcmkpbaaZTools
import Derived.Orders
import Derived.Test.YtmhkalalcmkpbaaRows
import Derived.Laws.Cells
import Derived.Laws.Entries
namespace Go.Proofs.Ytmhkalalcmkpbaa
open Go
set_option linter.unusedVariables false

section
variable {P : Program} {ops : Array Oper} {Q : Exit → Act → World → Prop} {md : Region.Mode}

/-- How many of the operations have not come up. -/
def unl (n : Nat) (listed : Array Bool) : Nat := ((List.range n).filter fun i => !listed.getD i true).length

theorem unl_set_aux (listed : Array Bool) (i : Nat) (hi : listed.getD i true = false) :
    ∀ (l : List Nat), i ∈ l → (l.filter fun j => !(listed.setIfInBounds i true).getD j true).length < (l.filter fun j => !listed.getD j true).length := by
  have hlt : i < listed.size := by
    rcases Nat.lt_or_ge i listed.size with h' | h'
    · exact h'
    · simp [Array.getElem?_eq_none h'] at hi
  have hself : (listed.setIfInBounds i true).getD i true = true := by simp [hlt]
  have hle : ∀ (l : List Nat), (l.filter fun j => !(listed.setIfInBounds i true).getD j true).length ≤ (l.filter fun j => !listed.getD j true).length := by
    intro l
    induction l with
    | nil => simp
    | cons x xs ih =>
      by_cases hx : i = x
      · subst hx
        rw [List.filter_cons, List.filter_cons, hself, hi]
        simp only [Bool.not_true, Bool.not_false, if_true, List.length_cons]
        simp only [Bool.false_eq_true, if_false]
        omega
      · rw [List.filter_cons, List.filter_cons, getD_set_ne true hx]
        split
        · simp only [List.length_cons]; omega
        · exact ih
  intro l
  induction l with
  | nil => intro h; cases h
  | cons x xs ih =>
    intro h
    by_cases hx : i = x
    · subst hx
      have := hle xs
      rw [List.filter_cons, List.filter_cons, hself, hi]
      simp only [Bool.not_true, Bool.not_false, if_true, List.length_cons]
      simp only [Bool.false_eq_true, if_false]
      omega
    · have hm : i ∈ xs := by rcases List.mem_cons.1 h with e | e; exact absurd e hx; exact e
      have := ih hm
      rw [List.filter_cons, List.filter_cons, getD_set_ne true hx]
      split
      · simp only [List.length_cons]; omega
      · exact this

theorem unl_set {listed : Array Bool} {i : Nat} (h : i ∈ Region.ready md ops listed) :
    unl ops.size (listed.setIfInBounds i true) < unl ops.size listed := by
  obtain ⟨h0, o, ho, _⟩ := mem_ready.1 h
  exact unl_set_aux listed i h0 _ (List.mem_range.2 (Array.getElem?_eq_some_iff.1 ho).1)

theorem unl_zero {listed : Array Bool} (h : unl ops.size listed = 0) : Region.ready md ops listed = [] := by
  cases hr : Region.ready md ops listed with
  | nil => rfl
  | cons x xs =>
    have := unl_set (md := md) (ops := ops) (listed := listed) (i := x) (by rw [hr]; exact List.mem_cons_self)
    omega

/-- The rule: what every operation that may come up keeps, holds at the end, whatever order is picked. -/
theorem wpAny_inv (J : Array Bool → Act → World → Prop)
    (hstep : ∀ listed a w i, J listed a w → i ∈ Region.ready md ops listed → wpOp P ops Q i (J (listed.setIfInBounds i true)) a w)
    (hend : ∀ listed a w, J listed a w → Region.ready md ops listed = [] → Q .normal a w) :
    ∀ (fuel : Nat) (listed : Array Bool) (a : Act) (w : World), unl ops.size listed ≤ fuel → J listed a w → wpAny P md ops Q fuel listed a w := by
  intro fuel
  induction fuel with
  | zero =>
    intro listed a w hu hJ
    have hr : Region.ready md ops listed = [] := unl_zero (by omega)
    exact ⟨hr, hend listed a w hJ hr⟩
  | succ fuel ih =>
    intro listed a w hu hJ
    refine ⟨hend listed a w hJ, fun i hi => ?_⟩
    have hlt := unl_set hi
    exact wpOp_mono (fun a' w' h' => ih _ a' w' (by omega) h') (hstep listed a w i hJ hi)

/-- Where every operation waits only for earlier ones, nothing ready says that all have come up. -/
theorem all_listed {listed : Array Bool} (hw : ∀ (i : Nat) (o : Oper), ops[i]? = some o → ∀ e ∈ o.after, e.on < i) (hs : listed.size = ops.size)
    (hr : Region.ready md ops listed = []) : ∀ i, i < ops.size → listed.getD i false = true := by
  intro i
  induction i using Nat.strongRecOn with
  | _ i ih =>
    intro hi
    cases hl : listed.getD i false with
    | true => rfl
    | false =>
      exfalso
      have hlt : i < listed.size := by omega
      have h0 : listed.getD i true = false := by simpa [hlt] using hl
      have hm : i ∈ Region.ready md ops listed := mem_ready.2 ⟨h0, ops[i], Array.getElem?_eq_getElem hi, fun e he hb => by
        have := hw i ops[i] (Array.getElem?_eq_getElem hi) e he
        exact ih e.on this (by omega)⟩
      rw [hr] at hm
      cases hm

/-- The act of a region on its way: the slots of the operations that have come up hold what they should, the others what they held. -/
def Held (ops : Array Oper) (a₀ : Act) (G : Nat → Value → World → Prop) (R : World → World → Prop) (w₀ : World) (listed : Array Bool) (a : Act) (w : World) : Prop :=
  listed.size = ops.size ∧ R w₀ w ∧ a.defers = a₀.defers ∧ a.tmps.size = a₀.tmps.size ∧
  (∀ (t : Nat), (∀ (i : Nat) (o : Oper), ops[i]? = some o → o.dst ≠ some t) → a.tmps[t]? = a₀.tmps[t]?) ∧
  ∀ (i : Nat) o d, ops[i]? = some o → o.dst = some d → listed.getD i false = true → ∃ v, a.tmps[d]? = some v ∧ G i v w

theorem getD_set_or {listed : Array Bool} {i j : Nat} (h : (listed.setIfInBounds i true).getD j false = true) : i = j ∨ listed.getD j false = true := by
  by_cases hij : i = j
  · exact .inl hij
  · rw [getD_set_ne false hij] at h; exact .inr h

/-- One operation of such a region. -/
theorem Held.put {a₀ : Act} {G : Nat → Value → World → Prop} {R : World → World → Prop} {w₀ : World} {listed : Array Bool} {a : Act} {w w' : World}
    {i : Nat} {o : Oper} {v : Value} (h : Held ops a₀ G R w₀ listed a w) (ho : ops[i]? = some o)
    (hR : ∀ w₁ w₂ w₃, R w₁ w₂ → R w₂ w₃ → R w₁ w₃) (hG : ∀ j v w₁ w₂, R w₁ w₂ → G j v w₁ → G j v w₂)
    (hd : ∀ (j k : Nat) p q d, ops[j]? = some p → ops[k]? = some q → p.dst = some d → q.dst = some d → j = k)
    (hin : ∀ d, o.dst = some d → d < a₀.tmps.size)
    (hw : R w w') (hv : G i v w') : Held ops a₀ G R w₀ (listed.setIfInBounds i true) (a.put o.dst v) w' := by
  obtain ⟨h1, h2, h3, h4, h5, h6⟩ := h
  refine ⟨by simpa using h1, hR _ _ _ h2 hw, ?_, ?_, ?_, ?_⟩
  · cases ho' : o.dst <;> exact h3
  · cases ho' : o.dst
    · exact h4
    · simpa [Act.put] using h4
  · intro t ht
    rw [← h5 t ht]
    cases ho' : o.dst with
    | none => rfl
    | some d =>
      have : d ≠ t := fun e => ht i o ho (by rw [ho', e])
      simp [Act.put, Array.getElem?_setIfInBounds_ne this]
  · intro j p d hp hpd hl
    rcases getD_set_or hl with e | e
    · subst e
      rw [ho] at hp
      cases hp
      refine ⟨v, ?_, hv⟩
      have := hin d hpd
      simp [Act.put, hpd, h4, this]
    · by_cases hij : i = j
      · subst hij
        rw [ho] at hp
        cases hp
        refine ⟨v, ?_, hv⟩
        have := hin d hpd
        simp [Act.put, hpd, h4, this]
      · obtain ⟨u, hu, hg⟩ := h6 j p d hp hpd e
        refine ⟨u, ?_, hG _ _ _ _ hw hg⟩
        rw [← hu]
        cases ho' : o.dst with
        | none => rfl
        | some b =>
          have : b ≠ d := fun e => hij (hd i j o p d ho hp (by rw [ho', e]) hpd)
          simp [Act.put, Array.getElem?_setIfInBounds_ne this]

end
end Go.Proofs.Ytmhkalalcmkpbaa

namespace Go.Proofs.Ytmhkalalcmkpbaa
open Go Go.RowKit
set_option linter.unusedVariables false
set_option linter.unusedSimpArgs false

/-- What a value means: just this value; a slice that nobody writes, of n elements of k cells each; a struct or an array; several results; whatever. -/
inductive AV where
  | x (v : Value)
  | sl (k n : Nat) (cs : List AV)
  | agg (cs : List AV)
  | tup (cs : List AV)
  | ip (cs : List AV)
  | fn (f : FuncId) (cs : List AV)
  | any

mutual
def Rep (O : Nat → Prop) (w : World) : AV → Value → Prop
  | .x u, v => v = u
  | .sl k n cs, v => cs.length = n * k ∧ ∃ A c, v = .slice A n c ∧ n ≤ c ∧ c ≤ 9223372036854775807 ∧
      (n * k = 0 ∨ ∃ ad, A = some ad ∧ ad.block < w.heap.size ∧ ¬ O ad.block ∧ RepC O w cs (fun j => w.cell? (ad.add j)))
  | .agg cs, v => ∃ us : Array Value, v = .agg us ∧ us.size = cs.length ∧ RepC O w cs (fun j => us[j]?)
  | .tup cs, v => ∃ us : Array Value, v = .tuple us ∧ us.size = cs.length ∧ RepC O w cs (fun j => us[j]?)
  | .ip cs, v => ∃ ad : Addr, v = .pointer (some ad) ∧ ad.block < w.heap.size ∧ ¬ O ad.block ∧ RepC O w cs (fun j => w.cell? (ad.add j))
  | .fn f cs, v => ∃ us : Array Value, v = .func (.func f) #[] us ∧ us.size = cs.length ∧ RepC O w cs (fun j => us[j]?)
  | .any, _ => True
def RepC (O : Nat → Prop) (w : World) : List AV → (Nat → Option Value) → Prop
  | [], _ => True
  | c :: cs, f => (∃ u, f 0 = some u ∧ Rep O w c u) ∧ RepC O w cs (fun j => f (j + 1))
end

def AV.one : AV → Bool
  | .x v => v.oneCell'
  | .sl _ _ _ => true
  | .ip _ => true
  | .fn _ _ => true
  | _ => false
def AV.cells : AV → List AV
  | .agg cs => cs
  | v => [v]

theorem Rep.one {O : Nat → Prop} {w : World} {c : AV} {u : Value} (h : Rep O w c u) (h1 : c.one = true) : u.oneCell' = true := by
  cases c with
  | x v => simp only [Rep] at h; subst h; exact h1
  | sl k n cs => simp only [Rep] at h; obtain ⟨_, A, c, rfl, _⟩ := h; rfl
  | agg cs => cases h1
  | tup cs => cases h1
  | ip cs => simp only [Rep] at h; obtain ⟨ad, rfl, _⟩ := h; rfl
  | fn f cs => simp only [Rep] at h; obtain ⟨us, rfl, _⟩ := h; rfl
  | any => cases h1

theorem RepC.at_ {O : Nat → Prop} {w : World} : ∀ {cs : List AV} {f : Nat → Option Value}, RepC O w cs f → ∀ (j : Nat) (c : AV), cs[j]? = some c → ∃ u, f j = some u ∧ Rep O w c u
  | [], _, _, j, c, hj => by simp at hj
  | d :: ds, f, h, 0, c, hj => by
    simp only [RepC] at h
    obtain rfl : d = c := by simpa using hj
    exact h.1
  | d :: ds, f, h, j + 1, c, hj => by
    simp only [RepC] at h
    exact RepC.at_ (f := fun j => f (j + 1)) h.2 j c (by simpa using hj)

theorem RepC.mk {O : Nat → Prop} {w : World} : ∀ {cs : List AV} {f : Nat → Option Value}, (∀ (j : Nat) (c : AV), cs[j]? = some c → ∃ u, f j = some u ∧ Rep O w c u) → RepC O w cs f
  | [], _, _ => by simp [RepC]
  | d :: ds, f, h => by
    simp only [RepC]
    exact ⟨h 0 d rfl, RepC.mk fun j c hj => h (j + 1) c (by simpa using hj)⟩

/-- What a step may do to memory that somebody else's values lie in. -/
def Kept (O : Nat → Prop) (w w' : World) : Prop := w.heap.size ≤ w'.heap.size ∧ ∀ b, b < w.heap.size → ¬ O b → w'.heap[b]? = w.heap[b]?
theorem Kept.refl (O : Nat → Prop) (w : World) : Kept O w w := ⟨Nat.le_refl _, fun _ _ _ => rfl⟩
theorem Kept.of_below {O : Nat → Prop} {w w' : World} (h : Below w.heap.size w w') : Kept O w w' := ⟨h.size, fun b hb _ => h.block b hb⟩

mutual
theorem Rep.mono {O O' : Nat → Prop} {w w' : World} (hk : Kept O w w') (hO : ∀ b, b < w.heap.size → O' b → O b) : ∀ (c : AV) (v : Value), Rep O w c v → Rep O' w' c v
  | .x u, v, h => by simp only [Rep] at h ⊢; exact h
  | .sl k n cs, v, h => by
    simp only [Rep] at h ⊢
    obtain ⟨h0, A, c, h1, h2, h3, h4⟩ := h
    refine ⟨h0, A, c, h1, h2, h3, ?_⟩
    rcases h4 with h4 | ⟨ad, rfl, h5, h6, h7⟩
    · exact .inl h4
    · refine .inr ⟨ad, rfl, Nat.lt_of_lt_of_le h5 hk.1, fun h => h6 (hO _ h5 h), ?_⟩
      have := RepC.mono hk hO cs (fun j => w.cell? (ad.add j)) h7
      have e : (fun j => w'.cell? (ad.add j)) = (fun j => w.cell? (ad.add j)) := funext fun j => World.cell?_of_block (by rw [block_of_add]; exact hk.2 _ h5 h6)
      rw [e]; exact this
  | .agg cs, v, h => by
    simp only [Rep] at h ⊢
    obtain ⟨us, h1, h2, h3⟩ := h
    exact ⟨us, h1, h2, RepC.mono hk hO cs _ h3⟩
  | .tup cs, v, h => by
    simp only [Rep] at h ⊢
    obtain ⟨us, h1, h2, h3⟩ := h
    exact ⟨us, h1, h2, RepC.mono hk hO cs _ h3⟩
  | .ip cs, v, h => by
    simp only [Rep] at h ⊢
    obtain ⟨ad, rfl, h5, h6, h7⟩ := h
    refine ⟨ad, rfl, Nat.lt_of_lt_of_le h5 hk.1, fun h => h6 (hO _ h5 h), ?_⟩
    have := RepC.mono hk hO cs (fun j => w.cell? (ad.add j)) h7
    have e : (fun j => w'.cell? (ad.add j)) = (fun j => w.cell? (ad.add j)) := funext fun j => World.cell?_of_block (by rw [block_of_add]; exact hk.2 _ h5 h6)
    rw [e]; exact this
  | .fn f cs, v, h => by
    simp only [Rep] at h ⊢
    obtain ⟨us, h1, h2, h3⟩ := h
    exact ⟨us, h1, h2, RepC.mono hk hO cs _ h3⟩
  | .any, v, h => by simp only [Rep]
theorem RepC.mono {O O' : Nat → Prop} {w w' : World} (hk : Kept O w w') (hO : ∀ b, b < w.heap.size → O' b → O b) : ∀ (cs : List AV) (f : Nat → Option Value), RepC O w cs f → RepC O' w' cs f
  | [], f, h => by simp only [RepC]
  | c :: cs, f, h => by
    simp only [RepC] at h ⊢
    obtain ⟨⟨u, hu, h1⟩, h2⟩ := h
    exact ⟨⟨u, hu, Rep.mono hk hO c u h1⟩, RepC.mono hk hO cs _ h2⟩
end

/-- What the call has made and writes: a block of cells; a row that grows. -/
inductive HObj where
  | cells (g : Nat) (T : TypeId) (cs : List AV)
  | row (v : Value) (e : TypeId) (k n : Nat) (cs : List AV)
  | dead

def HObj.blk : HObj → Option Nat
  | .cells g _ _ => some g
  | .row v _ _ _ _ => v.ownBlock
  | .dead => none

def HObj.ok (O : Nat → Prop) (w : World) : HObj → Prop
  | .cells g T cs => ∃ us : Array Value, w.heap[g]? = some (.cells us T (0, 0)) ∧ us.size = cs.length ∧ RepC O w cs (fun j => us[j]?)
  | .row v e k n cs => ∃ vs : List Value, w.ownsRow 0 e k v n vs ∧ vs.length = cs.length ∧ RepC O w cs (fun j => vs[j]?)
  | .dead => True

/-- The blocks that change: those that were the callers' own, and this call's own. -/
def owned (X : Nat → Prop) (h : List HObj) (b : Nat) : Prop := X b ∨ ∃ o ∈ h, o.blk = some b

/-- What a call began with: the world, and the blocks that it may write. -/
structure Orig where
  w : World
  F : Nat → Prop
  K : Prop
/-- Nothing that was there has turned; and (K) no draw was taken back. -/
structure Bl (K : Prop) (w w' : World) : Prop where
  b : Below w.heap.size w w'
  d : K → w.drawn ≤ w'.drawn
theorem Bl.refl (K : Prop) (w : World) : Bl K w w := ⟨Below.refl _ _, fun _ => Nat.le_refl _⟩
theorem Bl.trans {K : Prop} {a b c : World} (h : Bl K a b) (k : Bl K b c) : Bl K a c := ⟨h.b.trans (k.b.mono h.b.size), fun hk => Nat.le_trans (h.d hk) (k.d hk)⟩
theorem Bl.alloc (K : Prop) (w : World) (o : Obj) : Bl K w (w.alloc o) := ⟨(Below.refl _ _).alloc (Nat.le_refl _) o, fun _ => Nat.le_refl _⟩
structure Chg (K : Prop) (F : Nat → Prop) (w w' : World) : Prop where
  os : w'.os = w.os
  tape : w'.tape = w.tape
  output : w'.output = w.output
  size : w.heap.size ≤ w'.heap.size
  block : ∀ k, k < w.heap.size → ¬ F k → w'.heap[k]? = w.heap[k]?
  drawn : K → w.drawn ≤ w'.drawn
theorem Chg.refl (K : Prop) (F : Nat → Prop) (w : World) : Chg K F w w := ⟨rfl, rfl, rfl, Nat.le_refl _, fun _ _ _ => rfl, fun _ => Nat.le_refl _⟩
theorem Chg.below {K : Prop} {F : Nat → Prop} {a b c : World} (h : Chg K F a b) (k : Bl K b c) : Chg K F a c :=
  ⟨k.b.os.trans h.os, k.b.tape.trans h.tape, k.b.output.trans h.output, Nat.le_trans h.size k.b.size, fun i hi hf => (k.b.block i (Nat.lt_of_lt_of_le hi h.size)).trans (h.block i hi hf), fun hk => Nat.le_trans (h.drawn hk) (k.d hk)⟩
theorem Chg.none {K : Prop} {w w' : World} (h : Chg K (fun _ => False) w w') : Bl K w w' := ⟨⟨h.os, h.tape, h.output, h.size, fun k hk => h.block k hk (fun h => h)⟩, h.drawn⟩

/-- Of memory: what the call began with still stands, and its own blocks hold what they should. -/
structure Env (X : Nat → Prop) (w0 : Orig) (h : List HObj) (w : World) : Prop where
  below : Chg w0.K w0.F w0.w w
  objs : ∀ o ∈ h, o.ok (owned X h) w
  new : ∀ o ∈ h, ∀ b, o.blk = some b → w0.w.heap.size ≤ b ∨ w0.F b
  lt : ∀ o ∈ h, ∀ b, o.blk = some b → b < w.heap.size
  ext : ∀ b, X b → b < w0.w.heap.size ∧ ¬ w0.F b
  apart : ∀ (i j : Nat) (o p : HObj) b, h[i]? = some o → h[j]? = some p → o.blk = some b → p.blk = some b → i = j

structure AS where
  t : Nat → AV
  h : List HObj

def upd (f : Nat → AV) (d : Nat) (v : AV) : Nat → AV := fun t => bif Nat.beq t d then v else f t
theorem upd_same (f : Nat → AV) (d : Nat) (v : AV) : upd f d v d = v := by simp [upd]
theorem upd_ne (f : Nat → AV) {d t : Nat} (v : AV) (h : t ≠ d) : upd f d v t = f t := by
  have : Nat.beq t d = false := by
    cases hh : Nat.beq t d with
    | false => rfl
    | true => exact absurd (Nat.eq_of_beq_eq_true hh) h
  unfold upd; rw [this]; rfl

/-- A slot's new value; slots from N on there are none. -/
def putT (N : Nat) (f : Nat → AV) (d : Option Nat) (v : AV) : Nat → AV :=
  match d with
  | none => f
  | some d => bif Nat.blt d N then upd f d v else f

def AS.eval (s : AS) : Operand → AV
  | .tmp t => s.t t
  | .const v => .x v
  | .global g => .x (.pointer (some ⟨g, 0, none⟩))
  | .func f => .x (.func (.func f) #[] #[])
def evalT (f : Nat → AV) : Operand → AV
  | .tmp t => f t
  | .const v => .x v
  | .global g => .x (.pointer (some ⟨g, 0, none⟩))
  | .func f => .x (.func (.func f) #[] #[])

structure Slots (N : Nat) (O : Nat → Prop) (w : World) (f : Nat → AV) (a : Act) : Prop where
  defers : a.defers = []
  size : a.tmps.size = N
  slot : ∀ t, Rep O w (f t) (a.tmps.getD t undef)

structure St (N : Nat) (X : Nat → Prop) (w0 : Orig) (s : AS) (a : Act) (w : World) : Prop where
  env : Env X w0 s.h w
  slots : Slots N (owned X s.h) w s.t a

theorem Slots.eval {N : Nat} {O : Nat → Prop} {w : World} {f : Nat → AV} {a : Act} (h : Slots N O w f a) (x : Operand) : Rep O w (evalT f x) (a.eval x) := by
  cases x with
  | tmp t => exact h.slot t
  | const v => simp only [evalT, Rep, Act.eval]
  | global g => simp only [evalT, Rep, Act.eval]
  | func g => simp only [evalT, Rep, Act.eval]

theorem Slots.put {N : Nat} {O : Nat → Prop} {w : World} {f : Nat → AV} {a : Act} (h : Slots N O w f a) (d : Option Nat) {v : Value} {av : AV} (hv : Rep O w av v) : Slots N O w (putT N f d av) (a.put d v) := by
  cases d with
  | none => exact h
  | some d =>
    refine ⟨h.defers, by simpa [Act.put] using h.size, fun t => ?_⟩
    simp only [putT]
    by_cases hd : d < N
    · rw [show Nat.blt d N = true by simpa [Nat.blt_eq] using hd]
      simp only [cond_true]
      by_cases ht : t = d
      · subst ht
        rw [upd_same]
        have : t < a.tmps.size := by rw [h.size]; exact hd
        simpa [Act.put, Array.getElem?_setIfInBounds, this] using hv
      · rw [upd_ne _ _ ht]
        have := h.slot t
        simpa [Act.put, Array.getElem?_setIfInBounds_ne (Ne.symm ht)] using this
    · have hb : Nat.blt d N = false := by
        cases hh : Nat.blt d N with
        | false => rfl
        | true => exact absurd (by simpa [Nat.blt_eq] using hh) hd
      rw [hb]
      simp only [cond_false]
      have hge : a.tmps.size ≤ d := by rw [h.size]; omega
      have e : (a.put (some d) v).tmps = a.tmps := by simp [Act.put, Array.setIfInBounds, Nat.not_lt.2 hge]
      rw [e]
      exact h.slot t

theorem Slots.mono {N : Nat} {O O' : Nat → Prop} {w w' : World} {f : Nat → AV} {a : Act} (h : Slots N O w f a) (hk : Kept O w w') (hO : ∀ b, b < w.heap.size → O' b → O b) : Slots N O' w' f a :=
  ⟨h.defers, h.size, fun t => Rep.mono hk hO _ _ (h.slot t)⟩

theorem HObj.ok_mono {O O' : Nat → Prop} {w w' : World} {o : HObj} (h : o.ok O w) (hk : Kept O w w') (hO : ∀ b, b < w.heap.size → O' b → O b) (hb : ∀ b, o.blk = some b → w'.heap[b]? = w.heap[b]?) : o.ok O' w' := by
  cases o with
  | cells g T cs =>
    obtain ⟨us, h1, h2, h3⟩ := h
    exact ⟨us, (hb g rfl).trans h1, h2, RepC.mono hk hO _ _ h3⟩
  | row v e k n cs =>
    obtain ⟨vs, h1, h2, h3⟩ := h
    refine ⟨vs, ⟨h1.1, ?_⟩, h2, RepC.mono hk hO _ _ h3⟩
    rcases h1.2 with h4 | ⟨g, cap, cur, rfl, h5, h6, h7⟩
    · exact .inl h4
    · exact .inr ⟨g, cap, cur, rfl, h5, (hb g rfl).trans h6, h7⟩
  | dead => exact h

/-- A step that changes nothing that was there. -/
theorem Env.below_ {X : Nat → Prop} {w0 : Orig} {w w' : World} {h : List HObj} (he : Env X w0 h w) (hb : Bl w0.K w w') : Env X w0 h w' where
  below := he.below.below hb
  objs o ho := HObj.ok_mono (he.objs o ho) (Kept.of_below hb.b) (fun _ _ h => h) fun b hbb => hb.b.block b (he.lt o ho b hbb)
  new := he.new
  lt o ho b hbb := Nat.lt_of_lt_of_le (he.lt o ho b hbb) hb.b.size
  ext := he.ext
  apart := he.apart

theorem St.below_ {N : Nat} {X : Nat → Prop} {w0 : Orig} {w w' : World} {s : AS} {a : Act} (h : St N X w0 s a w) (hb : Bl w0.K w w') : St N X w0 s a w' :=
  ⟨h.env.below_ hb, h.slots.mono (Kept.of_below hb.b) fun _ _ h => h⟩
theorem owned_lt {X : Nat → Prop} {w0 : Orig} {w : World} {h : List HObj} (he : Env X w0 h w) {b : Nat} (hb : owned X h b) : b < w.heap.size := by
  rcases hb with hb | ⟨o, ho, hbb⟩
  · exact Nat.lt_of_lt_of_le (he.ext b hb).1 he.below.size
  · exact he.lt o ho b hbb
end Go.Proofs.Ytmhkalalcmkpbaa

namespace Go.Proofs.Ytmhkalalcmkpbaa
open Go Go.RowKit
set_option linter.unusedVariables false
set_option linter.unusedSimpArgs false

structure Cx where
  N : Nat
  X : Nat → Prop
  w0 : Orig

abbrev Cx.St (C : Cx) (s : AS) (a : Act) (w : World) : Prop := Go.Proofs.Ytmhkalalcmkpbaa.St C.N C.X C.w0 s a w
def up (C : Cx) (Q : Exit → AS → Prop) : Exit → Act → World → Prop := fun e a w => ∃ s, C.St s a w ∧ Q e s
def AW (P : Program) (C : Cx) (c : Code) (Q : Exit → AS → Prop) (s : AS) : Prop := ∀ a w, C.St s a w → c.wp P (up C Q) a w
def AWL (P : Program) (C : Cx) (ops : Array Oper) (Q : Exit → AS → Prop) (l : List Oper) (s : AS) : Prop := ∀ a w, C.St s a w → wpList P ops (up C Q) l a w

def thenA (n : AS → Prop) (Q : Exit → AS → Prop) : Exit → AS → Prop
  | .normal, s => n s
  | e, s => Q e s
def inB (id : Nat) (Q : Exit → AS → Prop) : Exit → AS → Prop
  | .exit i, s => bif Nat.beq i id then Q .normal s else Q (.exit i) s
  | e, s => Q e s

section
variable {P : Program} {C : Cx} {Q : Exit → AS → Prop} {s : AS}

theorem aw_mono {c : Code} {Q' : Exit → AS → Prop} (h : AW P C c Q s) (hq : ∀ e s, Q e s → Q' e s) : AW P C c Q' s :=
  fun a w hs => wp_mono (h a w hs) fun e a w ⟨s, h1, h2⟩ => ⟨s, h1, hq e s h2⟩
theorem aw_skip (h : Q .normal s) : AW P C .skip Q s := fun a w hs => wp_skip ⟨s, hs, h⟩
theorem aw_exit {id : Nat} (h : Q (.exit id) s) : AW P C (.exit id) Q s := fun a w hs => wp_exit ⟨s, hs, h⟩
theorem aw_ret (h : Q .ret s) : AW P C .ret Q s := fun a w hs => wp_ret ⟨s, hs, h⟩
theorem aw_seq {x y : Code} (h : AW P C x (thenA (AW P C y Q) Q) s) : AW P C (.seq x y) Q s := fun a w hs =>
  wp_seq (wp_mono (h a w hs) fun e a w ⟨s, h1, h2⟩ => by
    cases e <;> first | exact h2 a w h1 | exact ⟨s, h1, h2⟩)
theorem aw_cond {c : Operand} {x y : Code} {b : Bool} (hc : evalT s.t c = .x (.bool b)) (ht : b = true → AW P C x Q s) (hf : b = false → AW P C y Q s) : AW P C (.cond c x y) Q s := fun a w hs => by
  have h := hs.slots.eval c
  rw [hc] at h
  simp only [Rep] at h
  exact wp_cond_split h (fun e => ht e a w hs) (fun e => hf e a w hs)
theorem aw_block {id : Nat} {c : Code} (h : AW P C c (inB id Q) s) : AW P C (.block id c) Q s := fun a w hs =>
  wp_block (wp_mono (h a w hs) fun e a w ⟨s, h1, h2⟩ => by
    cases e with
    | exit i =>
      simp only [Exit.inBlock]
      simp only [inB] at h2
      by_cases hi : i = id
      · subst hi
        rw [if_pos rfl]
        rw [show Nat.beq i i = true by simp] at h2
        exact ⟨s, h1, h2⟩
      · rw [if_neg hi]
        have : Nat.beq i id = false := by
          cases hh : Nat.beq i id with
          | false => rfl
          | true => exact absurd (Nat.eq_of_beq_eq_true hh) hi
        rw [this] at h2
        exact ⟨s, h1, h2⟩
    | _ => exact ⟨s, h1, h2⟩)

/-- What is known of fewer slots, and of fewer blocks. -/
def Wk (s s' : AS) : Prop := (∃ r, s.h = s'.h ++ r) ∧ ∀ t, s'.t t = .any ∨ s'.t t = s.t t
theorem owned_pre {X : Nat → Prop} {h r : List HObj} {b : Nat} (hb : owned X h b) : owned X (h ++ r) b := by
  rcases hb with hb | ⟨o, ho, hob⟩
  · exact .inl hb
  · exact .inr ⟨o, List.mem_append_left _ ho, hob⟩
theorem Env.pre {X : Nat → Prop} {w0 : Orig} {w : World} {h r : List HObj} (env : Env X w0 (h ++ r) w) : Env X w0 h w where
  below := env.below
  objs o ho := HObj.ok_mono (env.objs o (List.mem_append_left _ ho)) (Kept.refl _ _) (fun b _ hb => owned_pre hb) fun _ _ => rfl
  new o ho := env.new o (List.mem_append_left _ ho)
  lt o ho := env.lt o (List.mem_append_left _ ho)
  ext := env.ext
  apart i j o p b hi hj := env.apart i j o p b (by rw [List.getElem?_append, if_pos (List.getElem?_eq_some_iff.1 hi).1]; exact hi) (by rw [List.getElem?_append, if_pos (List.getElem?_eq_some_iff.1 hj).1]; exact hj)
theorem Wk.st {N : Nat} {X : Nat → Prop} {w0 : Orig} {s s' : AS} {a : Act} {w : World} (h : Wk s s') (hs : St N X w0 s a w) : St N X w0 s' a w := by
  obtain ⟨⟨r, h1⟩, h2⟩ := h
  cases s with | mk t hh =>
  cases s' with | mk t' hh' =>
  simp only at h1 h2
  subst h1
  refine ⟨hs.env.pre, hs.slots.defers, hs.slots.size, fun t => ?_⟩
  rcases h2 t with e | e
  · simp only [e, Rep]
  · simp only [e]; exact Rep.mono (Kept.refl _ _) (fun b _ hb => owned_pre hb) _ _ (hs.slots.slot t)
def tab : List (Nat × AV) → Nat → AV
  | [] => fun _ => .any
  | (d, v) :: l => upd (tab l) d v
def AllEq (f : Nat → AV) : List (Nat × AV) → Prop
  | [] => True
  | (d, v) :: l => f d = v ∧ AllEq f l
theorem wk_tab {s : AS} {h r : List HObj} (hh : s.h = h ++ r) : ∀ {l : List (Nat × AV)}, AllEq s.t l → Wk s ⟨tab l, h⟩
  | [], _ => ⟨⟨r, hh⟩, fun t => .inl rfl⟩
  | (d, v) :: l, ha => ⟨⟨r, hh⟩, fun t => by
      by_cases ht : t = d
      · subst ht
        refine .inr ?_
        show upd (tab l) t v t = _
        rw [upd_same]; exact ha.1.symm
      · show upd (tab l) d v t = _ ∨ upd (tab l) d v t = _
        rw [upd_ne _ _ ht]
        exact (wk_tab (s := s) hh ha.2).2 t⟩

theorem aw_loop {c : Code} (I : Nat → AS → Prop) (h0 : ∃ m s', I m s' ∧ Wk s s')
    (hr : ∀ m s, I m s → AW P C c (thenA (fun s' => ∃ m' s'', m' < m ∧ I m' s'' ∧ Wk s' s'') Q) s) : AW P C (.loop c) Q s := by
  intro a w hs
  obtain ⟨m0, s0, hi, hw⟩ := h0
  have key : ∀ m s a w, I m s → C.St s a w → ∀ (b : Frame) (k : List Item) (cs : List Frame), ∃ e a' w', up C Q e a' w' ∧ Arrives P (lone (b.at a (.code c :: .inLoop c :: k)) cs w) b k cs e a' w' := by
    intro m
    induction m using Nat.strongRecOn with
    | _ m ih =>
      intro s a w hI hS b k cs
      obtain ⟨e, a₁, w₁, hq, harr⟩ := hr m s hI a w hS b (.inLoop c :: k) cs
      obtain ⟨s₁, hs₁, hq⟩ := hq
      cases e with
      | normal =>
        obtain ⟨m', s'', hlt, hI', hwk⟩ := hq
        obtain ⟨e₂, a₂, w₂, hq₂, harr₂⟩ := ih m' hlt s'' a₁ w₁ hI' (hwk.st hs₁) b k cs
        exact ⟨e₂, a₂, w₂, hq₂, .of_steps (Steps.trans harr (.one step_inLoop)) harr₂⟩
      | exit id => exact ⟨_, a₁, w₁, ⟨s₁, hs₁, hq⟩, .pass (x := .inLoop c) rfl (fun _ _ => .inl (by simp)) harr⟩
      | goto l => exact ⟨_, a₁, w₁, ⟨s₁, hs₁, hq⟩, .pass (x := .inLoop c) rfl (fun _ _ => .inl (by simp)) harr⟩
      | ret => exact ⟨_, a₁, w₁, ⟨s₁, hs₁, hq⟩, .pass (x := .inLoop c) rfl (fun _ _ => .inl (by simp)) harr⟩
      | panic ch => exact ⟨_, a₁, w₁, ⟨s₁, hs₁, hq⟩, .pass (x := .inLoop c) rfl (fun _ _ => .inl (by simp)) harr⟩
      | outgrown => exact ⟨_, a₁, w₁, ⟨s₁, hs₁, hq⟩, .pass (x := .inLoop c) rfl (fun _ _ => .inl (by simp)) harr⟩
  intro b k cs
  obtain ⟨e, a', w', hq, harr⟩ := key m0 s0 a w hi (hw.st hs) b k cs
  exact ⟨e, a', w', hq, .of_steps (.one step_loop) harr⟩

/-- A cut: what is known behind a piece of code. -/
theorem aw_cut {x y : Code} (M : AS → Prop) (h : AW P C x (thenA (fun s' => ∃ s'', M s'' ∧ Wk s' s'') Q) s) (hy : ∀ s, M s → AW P C y Q s) : AW P C (.seq x y) Q s :=
  aw_seq (aw_mono h fun e s h => by
    cases e with
    | normal => obtain ⟨s'', h1, h2⟩ := h; exact fun a w hs => hy s'' h1 a w (h2.st hs)
    | _ => exact h)

theorem aw_weaken {c : Code} {s' : AS} (hw : Wk s s') (h : AW P C c Q s') : AW P C c Q s := fun a w hs => h a w (hw.st hs)

def opRds (o : Oper) : List Nat := o.op.operands.toList.filterMap fun | .tmp t => some t | _ => none

/-- An operation that gives a value, and changes nothing that was there. -/
def PureOp (P : Program) (K : Prop) (N : Nat) (X : Nat → Prop) (h : List HObj) (f : Nat → AV) (o : Oper) (av : AV) : Prop :=
  ∀ (a : Act) (w : World) (w0 : Orig), w0.K = K → Env X w0 h w → a.tmps.size = N → (∀ t ∈ opRds o, Rep (owned X h) w (f t) (a.tmps.getD t undef)) →
    ∀ (next : Act → World → Prop) (Q : Exit → Act → World → Prop), (∀ v w', Bl K w w' → Rep (owned X h) w' av v → next (a.put o.dst v) w') → o.wp P a w next Q

theorem wanted_none {o : Oper} (h : o.guard = none) (y : Nat → Option Bool) : Region.wanted o y = true := by simp [Region.wanted, h]

theorem awl_nil {ops : Array Oper} (h : Q .normal s) : AWL P C ops Q [] s := fun a w hs => ⟨s, hs, h⟩

theorem awl_pure {ops : Array Oper} {o : Oper} {rest : List Oper} (av : AV) (hg : o.guard = none) (hp : PureOp P C.w0.K C.N C.X s.h s.t o av)
    (k : AWL P C ops Q rest ⟨putT C.N s.t o.dst av, s.h⟩) : AWL P C ops Q (o :: rest) s := by
  intro a w hs
  refine wpList_plain hg fun K hK => hp a w C.w0 rfl hs.env hs.slots.size (fun t _ => hs.slots.slot t) K _ fun v w' hb hr => hK _ _ (k _ _ ?_)
  have hs' := hs.below_ hb
  exact ⟨hs'.env, hs'.slots.put o.dst hr⟩

theorem undef_rep {O : Nat → Prop} {w : World} : Rep O w .any undef := by simp only [Rep]

theorem yield_bool {ops : Array Oper} {a : Act} {j t : Nat} {b : Bool} (hj : (ops[j]?).bind (·.dst) = some t) (h : a.tmps.getD t undef = .bool b) : yielded ops a.tmps j = some b := by
  unfold yielded
  rw [hj]
  show (match a.tmps[t]? with | some (.bool b) => some b | _ => none) = some b
  rw [Array.getD_eq_getD_getElem?] at h
  cases hh : a.tmps[t]? with
  | none => rw [hh] at h; cases h
  | some v => rw [hh] at h; obtain rfl : v = .bool b := h; rfl

/-- A guard that says no. -/
theorem awl_unwanted {ops : Array Oper} {o : Oper} {rest : List Oper} {j : Nat} {b b' : Bool} {t : Nat} (hg : o.guard = some (j, b)) (hj : (ops[j]?).bind (·.dst) = some t) (ht : s.t t = .x (.bool b')) (hb : b' ≠ b)
    (k : AWL P C ops Q rest ⟨putT C.N s.t o.dst .any, s.h⟩) : AWL P C ops Q (o :: rest) s := by
  intro a w hs
  have h := hs.slots.slot t
  rw [ht] at h
  simp only [Rep] at h
  have hw : Region.wanted o (yielded ops a.tmps) = false := by
    have : yielded ops a.tmps j = some b' := by
      exact yield_bool hj h
    simp [Region.wanted, hg, this, hb]
  refine wpList_step fun K hK => ?_
  rw [hw]
  exact hK _ _ (k _ _ ⟨hs.env, hs.slots.put o.dst undef_rep⟩)
theorem awl_wanted {ops : Array Oper} {o : Oper} {rest : List Oper} {j : Nat} {b : Bool} {t : Nat} (av : AV) (hg : o.guard = some (j, b)) (hj : (ops[j]?).bind (·.dst) = some t) (ht : s.t t = .x (.bool b)) (hp : PureOp P C.w0.K C.N C.X s.h s.t o av)
    (k : AWL P C ops Q rest ⟨putT C.N s.t o.dst av, s.h⟩) : AWL P C ops Q (o :: rest) s := by
  intro a w hs
  have h := hs.slots.slot t
  rw [ht] at h
  simp only [Rep] at h
  have hw : Region.wanted o (yielded ops a.tmps) = true := by
    have : yielded ops a.tmps j = some b := by
      exact yield_bool hj h
    simp [Region.wanted, hg, this]
  refine wpList_step fun K hK => ?_
  rw [hw]
  refine hp a w C.w0 rfl hs.env hs.slots.size (fun t _ => hs.slots.slot t) K _ fun v w' hb hr => hK _ _ (k _ _ ?_)
  have hs' := hs.below_ hb
  exact ⟨hs'.env, hs'.slots.put o.dst hr⟩

theorem aw_region {id : Nat} {l : List Oper} (h : AWL P C l.toArray Q l s) : AW P C (.region id l.toArray false) Q s := fun a w hs => wp_region_lit (h a w hs)
end
end Go.Proofs.Ytmhkalalcmkpbaa

namespace Go.Proofs.Ytmhkalalcmkpbaa
open Go Go.RowKit
set_option linter.unusedVariables false
set_option linter.unusedSimpArgs false

/-- An operation of such a region: wanted, or not. -/
def PureG (P : Program) (K : Prop) (N : Nat) (X : Nat → Prop) (h : List HObj) (ops : Array Oper) (f : Nat → AV) (o : Oper) (av : AV) : Prop :=
  (o.guard = none ∧ PureOp P K N X h f o av) ∨
  (∃ j b b' t, o.guard = some (j, b) ∧ (ops[j]?).bind (·.dst) = some t ∧ f t = .x (.bool b') ∧ (b' = b → PureOp P K N X h f o av) ∧ (b' ≠ b → av = .any ∨ av = .x undef)) ∨
  ∃ j b t, o.guard = some (j, b) ∧ (ops[j]?).bind (·.dst) = some t ∧ f t = .x undef ∧ av = .x undef

def Chain (P : Program) (K : Prop) (N : Nat) (X : Nat → Prop) (h : List HObj) (ops : Array Oper) : List Oper → (Nat → AV) → ((Nat → AV) → Prop) → Prop
  | [], f, G => G f
  | o :: rest, f, G => ∃ av, PureG P K N X h ops f o av ∧ Chain P K N X h ops rest (putT N f o.dst av) G

section
variable {P : Program} {N : Nat} {X : Nat → Prop} {h : List HObj} {ops : Array Oper} {f : Nat → AV} {K : Prop} {G : (Nat → AV) → Prop}
theorem chain_pure {o : Oper} {rest : List Oper} (av : AV) (hg : o.guard = none) (hp : PureOp P K N X h f o av) (k : Chain P K N X h ops rest (putT N f o.dst av) G) : Chain P K N X h ops (o :: rest) f G := ⟨av, .inl ⟨hg, hp⟩, k⟩
theorem chain_wanted {o : Oper} {rest : List Oper} {j : Nat} {b : Bool} {t : Nat} (av : AV) (hg : o.guard = some (j, b)) (hj : (ops[j]?).bind (·.dst) = some t) (ht : f t = .x (.bool b))
    (hp : PureOp P K N X h f o av) (k : Chain P K N X h ops rest (putT N f o.dst av) G) : Chain P K N X h ops (o :: rest) f G := ⟨av, .inr (.inl ⟨j, b, b, t, hg, hj, ht, fun _ => hp, fun h => absurd rfl h⟩), k⟩
theorem chain_unwanted {o : Oper} {rest : List Oper} {j : Nat} {b b' : Bool} {t : Nat} (hg : o.guard = some (j, b)) (hj : (ops[j]?).bind (·.dst) = some t) (ht : f t = .x (.bool b')) (hb : b' ≠ b)
    (k : Chain P K N X h ops rest (putT N f o.dst .any) G) : Chain P K N X h ops (o :: rest) f G := ⟨.any, .inr (.inl ⟨j, b, b', t, hg, hj, ht, fun h => absurd h hb, fun _ => .inl rfl⟩), k⟩
theorem chain_unwantedx {o : Oper} {rest : List Oper} {j : Nat} {b b' : Bool} {t : Nat} (hg : o.guard = some (j, b)) (hj : (ops[j]?).bind (·.dst) = some t) (ht : f t = .x (.bool b')) (hb : b' ≠ b)
    (k : Chain P K N X h ops rest (putT N f o.dst (.x undef)) G) : Chain P K N X h ops (o :: rest) f G := ⟨.x undef, .inr (.inl ⟨j, b, b', t, hg, hj, ht, fun h => absurd h hb, fun _ => .inr rfl⟩), k⟩
theorem chain_nonex {o : Oper} {rest : List Oper} {j : Nat} {b : Bool} {t : Nat} (hg : o.guard = some (j, b)) (hj : (ops[j]?).bind (·.dst) = some t) (ht : f t = .x undef)
    (k : Chain P K N X h ops rest (putT N f o.dst (.x undef)) G) : Chain P K N X h ops (o :: rest) f G := ⟨.x undef, .inr (.inr ⟨j, b, t, hg, hj, ht, rfl⟩), k⟩
theorem Chain.imp {G' : (Nat → AV) → Prop} (hk : ∀ f, G f → G' f) : ∀ {l : List Oper} {f : Nat → AV}, Chain P K N X h ops l f G → Chain P K N X h ops l f G'
  | [], _, k => hk _ k
  | _ :: _, _, ⟨av, hp, k⟩ => ⟨av, hp, Chain.imp hk k⟩

/-- The chain's frames and values. -/
theorem Chain.steps : ∀ {l : List Oper} {f : Nat → AV}, Chain P K N X h ops l f G → ∃ (fs : Nat → Nat → AV) (vs : Nat → AV), fs 0 = f ∧ G (fs l.length) ∧
    ∀ (i : Nat) (o : Oper), l[i]? = some o → PureG P K N X h ops (fs i) o (vs i) ∧ fs (i + 1) = putT N (fs i) o.dst (vs i)
  | [], f, k => ⟨fun _ => f, fun _ => .any, rfl, k, fun i o hi => by simp at hi⟩
  | o :: rest, f, ⟨av, hp, k⟩ => by
    obtain ⟨fs, vs, h0, hk, hs⟩ := Chain.steps k
    refine ⟨fun i => match i with | 0 => f | i + 1 => fs i, fun i => match i with | 0 => av | i + 1 => vs i, rfl, hk, fun i p hi => ?_⟩
    cases i with
    | zero =>
      obtain rfl : o = p := by simpa using hi
      exact ⟨hp, h0⟩
    | succ i => exact hs i p (by simpa using hi)
end

def memE (l : Array Edge) (j : Nat) : Bool := l.any fun e => Nat.beq e.on j && Region.binds .any e
/-- The first n operations wait for what they read; those behind them wait for all before. -/
def drawOk (ops : Array Oper) (n N : Nat) : Bool :=
  let l := ops.toList.zipIdx
  Nat.ble n ops.size &&
  l.all (fun p => p.1.after.all fun e => Nat.blt e.on p.2) &&
  l.all (fun p => if Nat.blt p.2 n then
      (match p.1.dst with | some d => Nat.blt d N && l.all (fun q => Nat.beq q.2 p.2 || !(Nat.blt q.2 n) || !(match q.1.dst with | some d' => Nat.beq d' d | none => false)) | none => true) &&
      ((opRds p.1 ++ (match p.1.guard with | some (g, _) => ((ops[g]?).bind (·.dst)).toList | none => [])).all fun t =>
        l.all fun q => !(Nat.blt q.2 n) || !(match q.1.dst with | some d => Nat.beq d t | none => false) || (Nat.blt q.2 p.2 && memE p.1.after q.2))
    else (List.range p.2).all fun q => memE p.1.after q)

structure DrawOk (ops : Array Oper) (n N : Nat) : Prop where
  le : n ≤ ops.size
  down : ∀ (i : Nat) (o : Oper), ops[i]? = some o → ∀ e ∈ o.after, e.on < i
  lt : ∀ (i : Nat) (o : Oper) d, i < n → ops[i]? = some o → o.dst = some d → d < N
  uniq : ∀ (i j : Nat) (o p : Oper) d, i < n → j < n → ops[i]? = some o → ops[j]? = some p → o.dst = some d → p.dst = some d → i = j
  reads : ∀ (i j : Nat) (o p : Oper) t, i < n → j < n → ops[i]? = some o → ops[j]? = some p → p.dst = some t → (t ∈ opRds o ∨ ∃ g b, o.guard = some (g, b) ∧ (ops[g]?).bind (·.dst) = some t) → j < i ∧ ∃ e ∈ o.after, e.on = j ∧ Region.binds .any e = true
  tail : ∀ (i j : Nat) (o : Oper), n ≤ i → j < i → ops[i]? = some o → ∃ e ∈ o.after, e.on = j ∧ Region.binds .any e = true

theorem memE_spec {l : Array Edge} {j : Nat} (h : memE l j = true) : ∃ e ∈ l, e.on = j ∧ Region.binds .any e = true := by
  unfold memE at h
  rw [Array.any_eq_true'] at h
  obtain ⟨e, he, h⟩ := h
  simp only [Bool.and_eq_true] at h
  exact ⟨e, he, Nat.eq_of_beq_eq_true h.1, h.2⟩

theorem drawOk_spec {ops : Array Oper} {n N : Nat} (h : drawOk ops n N = true) : DrawOk ops n N := by
  simp only [drawOk, Bool.and_eq_true, List.all_eq_true] at h
  obtain ⟨⟨h1, h2⟩, h3⟩ := h
  have mem : ∀ (i : Nat) (o : Oper), ops[i]? = some o → (o, i) ∈ ops.toList.zipIdx := fun i o ho => by
    rw [List.mem_zipIdx_iff_getElem?]
    simpa using ho
  have blt : ∀ {a b : Nat}, Nat.blt a b = true ↔ a < b := fun {a b} => by simp [Nat.blt_eq]
  have beq : ∀ {a b : Nat}, Nat.beq a b = true ↔ a = b := fun {a b} => ⟨Nat.eq_of_beq_eq_true, fun e => by subst e; simp⟩
  refine ⟨Nat.le_of_ble_eq_true h1, ?_, ?_, ?_, ?_, ?_⟩
  · intro i o ho e he
    have := h2 (o, i) (mem i o ho)
    rw [Array.all_eq_true'] at this
    exact blt.1 (this e he)
  · intro i o d hi ho hd
    have := h3 (o, i) (mem i o ho)
    simp only [blt.2 hi, if_true, hd, Bool.and_eq_true] at this
    exact blt.1 this.1.1
  · intro i j o p d hi hj ho hp hd hd'
    have := h3 (o, i) (mem i o ho)
    simp only [blt.2 hi, if_true, hd, Bool.and_eq_true, List.all_eq_true] at this
    have := this.1.2 (p, j) (mem j p hp)
    simp only [blt.2 hj, hd', beq.2 rfl, Bool.not_true, Bool.or_false, Bool.or_eq_true] at this
    exact (beq.1 this).symm
  · intro i j o p t hi hj ho hp hd hr
    have := h3 (o, i) (mem i o ho)
    simp only [blt.2 hi, if_true, Bool.and_eq_true, List.all_eq_true] at this
    have := this.2 t (by
      rw [List.mem_append]
      rcases hr with hr | ⟨g, b, hg, hgd⟩
      · exact .inl hr
      · refine .inr ?_
        simp only [hg, hgd, Option.toList, List.mem_singleton]) (p, j) (mem j p hp)
    simp only [blt.2 hj, hd, beq.2 rfl, Bool.not_true, Bool.false_or, Bool.and_eq_true] at this
    exact ⟨blt.1 this.1, memE_spec this.2⟩
  · intro i j o hi hj ho
    have := h3 (o, i) (mem i o ho)
    have hb : Nat.blt i n = false := by
      cases hh : Nat.blt i n with
      | false => rfl
      | true => exact absurd (blt.1 hh) (by omega)
    simp only [hb, Bool.false_eq_true, if_false, List.all_eq_true] at this
    exact memE_spec (this j (List.mem_range.2 hj))

section
variable {P : Program} {C : Cx} {Q : Exit → AS → Prop} {s : AS}

theorem aw_draw {id : Nat} {ops : Array Oper} (hm : P.follows .mixedOrders = true) (n : Nat) (hok : drawOk ops n C.N = true)
    (hc : Chain P C.w0.K C.N C.X s.h ops (ops.toList.take n) s.t fun f => AWL P C ops Q (ops.toList.drop n) ⟨f, s.h⟩) : AW P C (.region id ops true) Q s := by
  intro a0 w00 hs0
  have ok := drawOk_spec hok
  clear hok
  obtain ⟨fs, vs, hf0, hK, hstep⟩ := hc.steps
  have hlen : (ops.toList.take n).length = n := by rw [List.length_take, Array.length_toList]; exact Nat.min_eq_left ok.le
  rw [hlen] at hK
  have hget : ∀ i, i < n → ∀ (o : Oper), ops[i]? = some o → (ops.toList.take n)[i]? = some o := fun i hi o ho => by
    rw [List.getElem?_take, if_pos hi]; simpa using ho
  -- what the chain's frames hold
  have keep : ∀ t, (∀ (j : Nat) (p : Oper), j < n → ops[j]? = some p → p.dst ≠ some t) → ∀ i, i ≤ n → fs i t = s.t t := by
    intro t ht i
    induction i with
    | zero => intro _; rw [hf0]
    | succ i ih =>
      intro hi
      have hlt : i < ops.size := Nat.lt_of_lt_of_le (by omega) ok.le
      have ho : ops[i]? = some ops[i] := Array.getElem?_eq_getElem hlt
      rw [(hstep i _ (hget i (by omega) _ ho)).2]
      have hne := ht i _ (by omega) ho
      cases hd : ops[i].dst with
      | none => exact ih (by omega)
      | some d =>
        rw [hd] at hne
        have hne : t ≠ d := fun e => hne (by rw [e])
        show (bif Nat.blt d C.N then upd (fs i) d (vs i) else fs i) t = _
        cases Nat.blt d C.N with
        | true => simp only [cond_true]; rw [upd_ne _ _ hne]; exact ih (by omega)
        | false => exact ih (by omega)
  have holds : ∀ (j : Nat) (p : Oper) t, j < n → ops[j]? = some p → p.dst = some t → ∀ i, j < i → i ≤ n → fs i t = vs j := by
    intro j p t hj hp hd i
    induction i with
    | zero => intro h; omega
    | succ i ih =>
      intro h1 h2
      have hlt : i < ops.size := Nat.lt_of_lt_of_le (by omega) ok.le
      have ho : ops[i]? = some ops[i] := Array.getElem?_eq_getElem hlt
      rw [(hstep i _ (hget i (by omega) _ ho)).2]
      by_cases hij : i = j
      · subst hij
        rw [hp] at ho
        obtain rfl : p = ops[i] := by injection ho
        have hb : Nat.blt t C.N = true := by simpa [Nat.blt_eq] using ok.lt i _ t hj hp hd
        rw [hd]
        show (bif Nat.blt t C.N then upd (fs i) t (vs i) else fs i) t = _
        rw [hb]; simp only [cond_true]; rw [upd_same]
      · have := ih (by omega) (by omega)
        cases hd' : ops[i].dst with
        | none => exact this
        | some d =>
          have hne : t ≠ d := fun e => hij (ok.uniq i j _ _ d (by omega) hj ho hp hd' (by rw [hd, e]))
          show (bif Nat.blt d C.N then upd (fs i) d (vs i) else fs i) t = _
          cases Nat.blt d C.N with
          | true => simp only [cond_true]; rw [upd_ne _ _ hne]; exact this
          | false => exact this
  -- the invariant
  let w1 : World := { w00 with drawn := w00.drawn + 1 }
  have hbw : Bl C.w0.K w00 w1 := ⟨⟨rfl, rfl, rfl, Nat.le_refl _, fun _ _ => rfl⟩, fun _ => Nat.le_succ _⟩
  have hs1 : C.St s a0 w1 := hs0.below_ hbw
  let A : Array Bool → Act → World → Prop := fun listed a w =>
    listed.size = ops.size ∧ Bl C.w0.K w1 w ∧ a.defers = [] ∧ a.tmps.size = C.N ∧
    (∀ t, (∀ (j : Nat) (p : Oper), j < n → ops[j]? = some p → p.dst ≠ some t) → Rep (owned C.X s.h) w (s.t t) (a.tmps.getD t undef)) ∧
    (∀ (j : Nat) (p : Oper) t, j < n → ops[j]? = some p → p.dst = some t → listed.getD j false = true → Rep (owned C.X s.h) w (vs j) (a.tmps.getD t undef)) ∧
    ∀ j, n ≤ j → listed.getD j false = false
  let B : Array Bool → Act → World → Prop := fun listed a w =>
    listed.size = ops.size ∧ ∃ k, n ≤ k ∧ k ≤ ops.size ∧ (∀ j, j < k → listed.getD j false = true) ∧ (∀ j, k ≤ j → listed.getD j false = false) ∧ wpList P ops (up C Q) (ops.toList.drop k) a w
  -- all of the first ones have come up
  have full : ∀ listed a w, A listed a w → (∀ j, j < n → listed.getD j false = true) → C.St ⟨fs n, s.h⟩ a w := by
    intro listed a w ⟨h1, h2, h3, h4, h5, h6, h7⟩ hall
    refine ⟨hs1.env.below_ h2, h3, h4, fun t => ?_⟩
    by_cases ht : ∃ (j : Nat) (p : Oper), j < n ∧ ops[j]? = some p ∧ p.dst = some t
    · obtain ⟨j, p, hj, hp, hd⟩ := ht
      show Rep _ _ (fs n t) _
      rw [holds j p t hj hp hd n hj (Nat.le_refl _)]
      exact h6 j p t hj hp hd (hall j hj)
    · have ht' : ∀ (j : Nat) (p : Oper), j < n → ops[j]? = some p → p.dst ≠ some t := fun j p hj hp hd => ht ⟨j, p, hj, hp, hd⟩
      show Rep _ _ (fs n t) _
      rw [keep t ht' n (Nat.le_refl _)]
      exact h5 t ht'
  have stepB : ∀ listed a w i, B listed a w → i ∈ Region.ready .any ops listed → wpOp P ops (up C Q) i (fun a w => A (listed.setIfInBounds i true) a w ∨ B (listed.setIfInBounds i true) a w) a w := by
    intro listed a w i ⟨hsz, k, h1, h2, h3, h4, h5⟩ hi
    obtain ⟨h0, o, ho, hall⟩ := mem_ready.1 hi
    have hlt : i < ops.size := (Array.getElem?_eq_some_iff.1 ho).1
    have hki : k ≤ i := by
      rcases Nat.lt_or_ge i k with h | h
      · have := h3 i h
        have hl : i < listed.size := by omega
        simp [hl] at this h0
        rw [this] at h0; cases h0
      · exact h
    obtain rfl : i = k := by
      rcases Nat.lt_or_ge k i with h | h
      · obtain ⟨e, he, hj, hb⟩ := ok.tail i k o (by omega) h ho
        have := hall e he hb
        rw [hj, h4 k (Nat.le_refl _)] at this; cases this
      · omega
    have hd : ops.toList.drop i = o :: ops.toList.drop (i + 1) := by
      have hl : i < ops.toList.length := by simpa using hlt
      rw [List.drop_eq_getElem_cons hl]
      congr 1
      have := (Array.getElem?_eq_some_iff.1 ho).2
      simpa using this
    rw [hd] at h5
    have h5' : wpOp P ops (up C Q) i (wpList P ops (up C Q) (ops.toList.drop (i + 1))) a w := by
      unfold wpOp
      rw [ho]
      exact h5
    refine wpOp_mono (fun a' w' h => .inr ⟨by simpa using hsz, i + 1, by omega, by omega, fun j hj => ?_, fun j hj => ?_, h⟩) h5'
    · by_cases hij : j = i
      · subst hij; have : j < listed.size := by omega
        simp [this]
      · rw [getD_set_ne false (Ne.symm hij)]; exact h3 j (by omega)
    · rw [getD_set_ne false (by omega)]; exact h4 j (by omega)
  refine wp_region_any hm (wpAny_inv (md := .any) (fun listed a w => A listed a w ∨ B listed a w) ?_ ?_ ops.size _ a0 w1 ?_ ?_)
  · intro listed a w i hJ hi
    rcases hJ with hA | hB
    · have hA' := hA
      obtain ⟨h0, o, ho, hall⟩ := mem_ready.1 hi
      obtain ⟨h1, h2, h3, h4, h5, h6, h7⟩ := hA
      by_cases hin : i < n
      · -- one of the first
        obtain ⟨hp, hfs⟩ := hstep i o (hget i hin o ho)
        have env : Env C.X C.w0 s.h w := hs1.env.below_ h2
        have reads : ∀ t, (t ∈ opRds o ∨ ∃ g b, o.guard = some (g, b) ∧ (ops[g]?).bind (·.dst) = some t) → Rep (owned C.X s.h) w (fs i t) (a.tmps.getD t undef) := by
          intro t ht
          by_cases hw : ∃ (j : Nat) (p : Oper), j < n ∧ ops[j]? = some p ∧ p.dst = some t
          · obtain ⟨j, p, hj, hp, hd⟩ := hw
            obtain ⟨hji, e, he, hej, hb⟩ := ok.reads i j o p t hin hj ho hp hd ht
            rw [holds j p t hj hp hd i hji (Nat.le_of_lt hin)]
            exact h6 j p t hj hp hd (by have := hall e he hb; rwa [hej] at this)
          · have ht' : ∀ (j : Nat) (p : Oper), j < n → ops[j]? = some p → p.dst ≠ some t := fun j p hj hp hd => hw ⟨j, p, hj, hp, hd⟩
            rw [keep t ht' i (Nat.le_of_lt hin)]
            exact h5 t ht'
        have fin : ∀ v w', Bl C.w0.K w w' → Rep (owned C.X s.h) w' (vs i) v → A (listed.setIfInBounds i true) (a.put o.dst v) w' := by
          intro v w' hb hr
          have mono : ∀ {c : AV} {u : Value}, Rep (owned C.X s.h) w c u → Rep (owned C.X s.h) w' c u := fun h => Rep.mono (Kept.of_below hb.b) (fun _ _ h => h) _ _ h
          refine ⟨by simpa using h1, h2.trans hb, ?_, ?_, fun t ht => ?_, fun j p t hj hp hd hl => ?_, fun j hj => ?_⟩
          · cases o.dst <;> exact h3
          · cases o.dst <;> simpa [Act.put] using h4
          · have := mono (h5 t ht)
            cases hd : o.dst with
            | none => exact this
            | some d =>
              have hne : d ≠ t := fun e => ht i o hin ho (by rw [hd, e])
              simpa [Act.put, Array.getElem?_setIfInBounds_ne hne] using this
          · by_cases hij : i = j
            · subst hij
              rw [ho] at hp
              obtain rfl : o = p := by injection hp
              have hlt : t < a.tmps.size := by rw [h4]; exact ok.lt i o t hin ho hd
              rw [hd]
              simpa [Act.put, hlt] using hr
            · rw [getD_set_ne false hij] at hl
              have := mono (h6 j p t hj hp hd hl)
              cases hd' : o.dst with
              | none => exact this
              | some d =>
                have hne : d ≠ t := fun e => hij (ok.uniq i j o p d hin hj ho hp hd' (by rw [hd, e]))
                simpa [Act.put, Array.getElem?_setIfInBounds_ne hne] using this
          · rw [getD_set_ne false (by omega)]; exact h7 j hj
        unfold wpOp
        rw [ho]
        simp only []
        rcases hp with ⟨hg, hp⟩ | ⟨g, b, b', t, hg, hgd, hft, hy, hn⟩ | ⟨g, b, t, hg, hgd, hft, hav⟩
        · rw [wanted_none hg]
          exact .inl (hp a w C.w0 rfl env h4 (fun t ht => reads t (.inl ht)) _ _ fun v w' hb hr => .inl (fin v w' hb hr))
        · have hr := reads t (.inr ⟨g, b, hg, hgd⟩)
          rw [hft] at hr
          simp only [Rep] at hr
          have hyl := yield_bool hgd hr
          by_cases hbb : b' = b
          · subst hbb
            rw [show Region.wanted o (yielded ops a.tmps) = true by simp [Region.wanted, hg, hyl]]
            exact .inl (hy rfl a w C.w0 rfl env h4 (fun t ht => reads t (.inl ht)) _ _ fun v w' hb hr => .inl (fin v w' hb hr))
          · rw [show Region.wanted o (yielded ops a.tmps) = false by simp [Region.wanted, hg, hyl, hbb]]
            exact .inl (fin undef w (Bl.refl _ _) (by
              rcases hn hbb with e | e
              · rw [e]; exact undef_rep
              · rw [e]; simp only [Rep]))
        · have hr := reads t (.inr ⟨g, b, hg, hgd⟩)
          rw [hft] at hr
          simp only [Rep] at hr
          have hyl : yielded ops a.tmps g = none := by
            unfold yielded
            rw [hgd]
            show (match a.tmps[t]? with | some (.bool b) => some b | _ => none) = none
            rw [Array.getD_eq_getD_getElem?] at hr
            cases hh : a.tmps[t]? with
            | none => rfl
            | some v => rw [hh] at hr; obtain rfl : v = undef := hr; rfl
          rw [show Region.wanted o (yielded ops a.tmps) = false by simp [Region.wanted, hg, hyl]]
          exact .inl (fin undef w (Bl.refl _ _) (by rw [hav]; simp only [Rep]))
      · -- the first of those behind
        have hall' : ∀ j, j < i → listed.getD j false = true := fun j hj => by
          obtain ⟨e, he, hej, hb⟩ := ok.tail i j o (by omega) hj ho
          have := hall e he hb
          rwa [hej] at this
        have hni : i = n := by
          rcases Nat.lt_or_ge n i with h | h
          · have := hall' n h
            rw [h7 n (Nat.le_refl _)] at this; cases this
          · omega
        subst hni
        have hst := full listed a w hA' hall'
        have hwl := hK a w hst
        exact stepB listed a w i ⟨h1, i, Nat.le_refl _, ok.le, hall', h7, hwl⟩ hi
    · exact stepB listed a w i hB hi
  · intro listed a w hJ hr
    have hsz : listed.size = ops.size := by rcases hJ with h | h <;> exact h.1
    have hall := all_listed ok.down hsz hr
    rcases hJ with hA | ⟨_, k, h1, h2, h3, h4, h5⟩
    · have hn : n = ops.size := by
        rcases Nat.lt_or_ge n ops.size with h | h
        · have := hall n h
          rw [hA.2.2.2.2.2.2 n (Nat.le_refl _)] at this; cases this
        · have := ok.le; omega
      have hwl := hK a w (full listed a w hA fun j hj => hall j (by omega))
      have e : ops.toList.drop n = [] := by rw [hn]; exact List.drop_eq_nil_of_le (by simp)
      rw [e] at hwl
      exact hwl
    · have hk : k = ops.size := by
        rcases Nat.lt_or_ge k ops.size with h | h
        · have := hall k h
          rw [h4 k (Nat.le_refl _)] at this; cases this
        · omega
      have e : ops.toList.drop k = [] := by rw [hk]; exact List.drop_eq_nil_of_le (by simp)
      rw [e] at h5
      exact h5
  · unfold unl
    have := List.length_filter_le (fun i => !(Array.replicate ops.size false).getD i true) (List.range ops.size)
    simpa using this
  · refine .inl ⟨by simp, Bl.refl _ _, hs1.slots.defers, hs1.slots.size, fun t _ => hs1.slots.slot t, fun j p t hj hp hd hl => ?_, fun j hj => ?_⟩
    · have hlt : j < ops.size := (Array.getElem?_eq_some_iff.1 hp).1
      simp [hlt] at hl
    · rw [Array.getD_eq_getD_getElem?]
      by_cases hlt : j < ops.size
      · simp [hlt]
      · simp [hlt]
end
end Go.Proofs.Ytmhkalalcmkpbaa

namespace Go.Proofs.Ytmhkalalcmkpbaa
open Go Go.RowKit
set_option linter.unusedVariables false
set_option linter.unusedSimpArgs false

/-- Of a type: is it a struct or an array; how many cells. -/
def tyOf (P : Program) (t : TypeId) : Option (Bool × Nat) :=
  match P.underlying t, P.info? t with
  | some d, some i => some (match d with | .struct _ | .array _ _ => true | _ => false, i.size)
  | _, _ => none
def tyZero (P : Program) (t : TypeId) : Option (List Value) := ((P.info? t).bind (·.zero)).map fun v => v.cells.toList
def tyFields (P : Program) (t : TypeId) : Option (List (Nat × TypeId)) :=
  match P.underlying t with
  | some (.struct fs) => some (fs.toList.map fun f => (f.offset, f.type))
  | _ => none
/-- A struct's field: where, and its type. -/
def tyField (P : Program) (t : TypeId) (j : Nat) : Option (Nat × TypeId) := (tyFields P t).bind (·[j]?)

section
variable {P : Program} {K : Prop} {N : Nat} {X : Nat → Prop} {h : List HObj} {f : Nat → AV} {o : Oper}

theorem opRds_mem {o : Oper} {t : Nat} (h : Operand.tmp t ∈ o.op.operands.toList) : t ∈ opRds o := by
  unfold opRds
  rw [List.mem_filterMap]
  exact ⟨_, h, rfl⟩

theorem pure_of {av : AV} (H : ∀ (a : Act) (w : World) (w0 : Orig), w0.K = K → Env X w0 h w → (∀ x ∈ o.op.operands.toList, Rep (owned X h) w (evalT f x) (a.eval x)) →
    ∃ v w', (execOp a.eval o).run P w = .ok (.value v) w' ∧ Bl K w w' ∧ Rep (owned X h) w' av v) : PureOp P K N X h f o av := by
  intro a w w0 hK env hsz hr next Q hk
  obtain ⟨v, w', h1, h2, h3⟩ := H a w w0 hK env fun x hx => by
    cases x with
    | tmp t => exact hr t (opRds_mem hx)
    | const v => simp only [evalT, Rep, Act.eval]
    | global g => simp only [evalT, Rep, Act.eval]
    | func g => simp only [evalT, Rep, Act.eval]
  unfold Oper.wp
  rw [h1]
  exact hk v w' h2 h3

/-- An operation at values that are known just. -/
theorem pure_run {av : AV} (H : ∀ (a : Act) (w : World) (w0 : Orig), Env X w0 h w → (∀ x ∈ o.op.operands.toList, Rep (owned X h) w (evalT f x) (a.eval x)) → ∃ v, (execOp a.eval o).run P w = .ok (.value v) w ∧ Rep (owned X h) w av v) : PureOp P K N X h f o av :=
  pure_of fun a w w0 hK env hr => let ⟨v, h1, h2⟩ := H a w w0 env hr; ⟨v, w, h1, Bl.refl _ _, h2⟩

theorem rep_x {O : Nat → Prop} {w : World} {u v : Value} : Rep O w (.x u) v ↔ v = u := by simp only [Rep]

theorem p_move {x : Operand} (ho : o.op = .move x) : PureOp P K N X h f o (evalT f x) := pure_run fun a w w0 env hr => by
  rw [ho] at hr
  refine ⟨a.eval x, ?_, hr x (by simp [Op.operands])⟩
  simp [execOp, ho]
theorem p_assign {x : Operand} (ho : o.op = .assign x) : PureOp P K N X h f o (evalT f x) := pure_run fun a w w0 env hr => by
  rw [ho] at hr
  refine ⟨a.eval x, ?_, hr x (by simp [Op.operands])⟩
  simp [execOp, ho]

def icmp : BinOp → Int → Int → Option Bool
  | .eql, a, b => some (decide (a = b))
  | .neq, a, b => some (!decide (a = b))
  | .lss, a, b => some (decide (a < b))
  | .leq, a, b => some (decide (a ≤ b))
  | .gtr, a, b => some (decide (b < a))
  | .geq, a, b => some (decide (b ≤ a))
  | _, _, _ => none
theorem p_icmp {op : BinOp} {t t' : TypeId} {x y : Operand} {k : IntKind} {a b : Int} {r : Bool} (ho : o.op = .binOp op t x y t') (hx : evalT f x = .x (.int k a)) (hy : evalT f y = .x (.int k b)) (hr : icmp op a b = some r) :
    PureOp P K N X h f o (.x (.bool r)) := pure_run fun ac w w0 env H => by
  rw [ho] at H
  have h1 := H x (by simp [Op.operands])
  have h2 := H y (by simp [Op.operands])
  rw [hx, rep_x] at h1
  rw [hy, rep_x] at h2
  refine ⟨.bool r, ?_, rep_x.2 rfl⟩
  cases op <;> simp only [icmp, Option.some.injEq] at hr <;> first | cases hr; done | (subst hr; simp [execOp, ho, h1, h2, eqGuard, binOp, Op.intCmp, bne, BEq.beq])

def iar : BinOp → IntKind → Int → Int → Option Int
  | .add, k, a, b => some (k.wrap (a + b))
  | .sub, k, a, b => some (k.wrap (a - b))
  | .mul, k, a, b => some (k.wrap (a * b))
  | _, _, _, _ => none
theorem p_iar {op : BinOp} {t t' : TypeId} {x y : Operand} {k : IntKind} {a b r : Int} (ho : o.op = .binOp op t x y t') (hx : evalT f x = .x (.int k a)) (hy : evalT f y = .x (.int k b)) (hr : iar op k a b = some r) :
    PureOp P K N X h f o (.x (.int k r)) := pure_run fun ac w w0 env H => by
  rw [ho] at H
  have h1 := H x (by simp [Op.operands])
  have h2 := H y (by simp [Op.operands])
  rw [hx, rep_x] at h1
  rw [hy, rep_x] at h2
  refine ⟨.int k r, ?_, rep_x.2 rfl⟩
  cases op <;> simp only [iar, Option.some.injEq] at hr <;> first | cases hr; done | (subst hr; simp [execOp, ho, h1, h2, eqGuard, binOp, Op.intArith])

theorem ba_toList_inj {a b : ByteArray} (h : a.toList = b.toList) : a = b := by
  rw [ByteArray.toList_eq, ByteArray.toList_eq] at h
  cases a; cases b
  simp only [ByteArray.mk.injEq]
  exact Array.toList_inj.1 h
def scmp : BinOp → ByteArray → ByteArray → Option Bool
  | .eql, a, b => some (decide (a = b))
  | .neq, a, b => some (!decide (a = b))
  | .lss, a, b => some (Op.bytesLess a.toList b.toList)
  | .gtr, a, b => some (!(Op.bytesLess a.toList b.toList || decide (a = b)))
  | _, _, _ => none
theorem p_scmp {op : BinOp} {t t' : TypeId} {x y : Operand} {a b : ByteArray} {r : Bool} (ho : o.op = .binOp op t x y t') (hx : evalT f x = .x (.string a)) (hy : evalT f y = .x (.string b)) (hr : scmp op a b = some r) :
    PureOp P K N X h f o (.x (.bool r)) := pure_run fun ac w w0 env H => by
  rw [ho] at H
  have h1 := H x (by simp [Op.operands])
  have h2 := H y (by simp [Op.operands])
  rw [hx, rep_x] at h1
  rw [hy, rep_x] at h2
  have he : (a.toList == b.toList) = decide (a = b) := by
    rw [Bool.eq_iff_iff]; simp only [beq_iff_eq, decide_eq_true_eq]
    exact ⟨ba_toList_inj, fun e => by rw [e]⟩
  refine ⟨.bool r, ?_, rep_x.2 rfl⟩
  cases op <;> simp only [scmp, Option.some.injEq] at hr <;> first | cases hr; done | (subst hr; simp [execOp, ho, h1, h2, eqGuard, binOp, Op.stringOp, he])
theorem p_sadd {t t' : TypeId} {x y : Operand} {a b : ByteArray} (ho : o.op = .binOp .add t x y t') (hx : evalT f x = .x (.string a)) (hy : evalT f y = .x (.string b)) (hs : a.size + b.size < 9223372036854775807) :
    PureOp P K N X h f o (.x (.string (a ++ b))) := pure_run fun ac w w0 env H => by
  rw [ho] at H
  have h1 := H x (by simp [Op.operands])
  have h2 := H y (by simp [Op.operands])
  rw [hx, rep_x] at h1
  rw [hy, rep_x] at h2
  refine ⟨.string (a ++ b), ?_, rep_x.2 rfl⟩
  have hm : IntKind.i64.max = 9223372036854775807 := by decide
  have : ¬ (((a.size + b.size : Nat) : Int) > IntKind.i64.max) := by rw [hm]; omega
  simp only [execOp, ho, h1, h2, eqGuard, binOp, Op.stringOp]
  simp [hm]
  omega
theorem p_not {t : TypeId} {x : Operand} {b : Bool} (ho : o.op = .unOp .not t x) (hx : evalT f x = .x (.bool b)) : PureOp P K N X h f o (.x (.bool !b)) := pure_run fun ac w w0 env H => by
  rw [ho] at H
  have h1 := H x (by simp [Op.operands])
  rw [hx, rep_x] at h1
  exact ⟨.bool !b, by simp [execOp, ho, h1, Op.unary], rep_x.2 rfl⟩
theorem p_pick {c x y : Operand} {b : Bool} {av : AV} (ho : o.op = .pick c x y) (hc : evalT f c = .x (.bool b)) (h1 : (if b = true then evalT f x else evalT f y) = av) : PureOp P K N X h f o av := pure_run fun a w w0 env H => by
  rw [ho] at H
  have g := H c (by simp [Op.operands])
  rw [hc, rep_x] at g
  refine ⟨if b = true then a.eval x else a.eval y, ?_, ?_⟩
  · cases b <;> simp [execOp, ho, g, asBool]
  · rw [← h1]
    cases b
    · exact H y (by simp [Op.operands])
    · exact H x (by simp [Op.operands])
theorem p_extract {x : Operand} {i : Nat} {cs : List AV} {av : AV} (ho : o.op = .extract x i) (hx : evalT f x = .tup cs) (hi : cs[i]? = some av) : PureOp P K N X h f o av := pure_run fun a w w0 env H => by
  rw [ho] at H
  have h1 := H x (by simp [Op.operands])
  rw [hx] at h1
  simp only [Rep] at h1
  obtain ⟨us, e, hs, hc⟩ := h1
  obtain ⟨u, hu, hr⟩ := hc.at_ i av hi
  exact ⟨u, by simp [execOp, ho, e, Instr.extract, hu], hr⟩
end
end Go.Proofs.Ytmhkalalcmkpbaa

namespace Go.Proofs.Ytmhkalalcmkpbaa
open Go Go.RowKit
set_option linter.unusedVariables false
set_option linter.unusedSimpArgs false

section
variable {P : Program} {K : Prop} {N : Nat} {X : Nat → Prop} {h : List HObj} {f : Nat → AV} {o : Oper}

theorem add_plain (g a j : Nat) : (⟨g, a, none⟩ : Addr).add j = ⟨g, a + j, none⟩ := by
  unfold Addr.add; split
  · rename_i h; subst h; rfl
  · rfl
theorem tyOf_spec {t : TypeId} {b : Bool} {k : Nat} (ht : tyOf P t = some (b, k)) : ∃ d i, P.underlying t = some d ∧ P.info? t = some i ∧ i.size = k ∧ (match d with | .struct _ | .array _ _ => true | _ => false) = b := by
  unfold tyOf at ht
  cases hd : P.underlying t with
  | none => simp [hd] at ht
  | some d =>
    cases hi : P.info? t with
    | none => simp [hd, hi] at ht
    | some i =>
      simp only [hd, hi, Option.some.injEq, Prod.mk.injEq] at ht
      exact ⟨d, i, rfl, rfl, ht.2, ht.1⟩
theorem run_sizeOf_ {t : TypeId} {b : Bool} {k : Nat} (ht : tyOf P t = some (b, k)) (w : World) : (sizeOf t).run P w = .ok k w := by
  obtain ⟨d, i, h1, h2, h3, h4⟩ := tyOf_spec ht
  simp [sizeOf, typeInfo, h2, h3]
theorem run_isAgg_ {t : TypeId} {b : Bool} {k : Nat} (ht : tyOf P t = some (b, k)) (w : World) : (isAgg t).run P w = .ok b w := by
  obtain ⟨d, i, h1, h2, h3, h4⟩ := tyOf_spec ht
  unfold isAgg
  rw [Sem.run_bind, run_underlying h1 w]
  subst h4
  cases d <;> simp
theorem tyField_spec {t : TypeId} {j off : Nat} {u : TypeId} (ht : tyField P t j = some (off, u)) : ∃ fs fd, P.underlying t = some (.struct fs) ∧ fs[j]? = some fd ∧ fd.offset = off ∧ fd.type = u := by
  unfold tyField tyFields at ht
  cases hd : P.underlying t with
  | none => simp [hd] at ht
  | some d =>
    cases d <;> simp [hd] at ht
    rename_i fs
    obtain ⟨fd, hfd, h1, h2⟩ := ht
    exact ⟨fs, fd, rfl, hfd, h1, h2⟩

/-- The values that stand from place off on. -/
theorem RepC.drop {O : Nat → Prop} {w : World} : ∀ {cs : List AV} {g : Nat → Option Value}, RepC O w cs g → ∀ n, RepC O w (cs.drop n) (fun j => g (n + j))
  | cs, g, hh, n => RepC.mk fun j c hj => by
    rw [List.getElem?_drop] at hj
    exact hh.at_ _ c hj
theorem RepC.take {O : Nat → Prop} {w : World} {cs : List AV} {g : Nat → Option Value} (hh : RepC O w cs g) (n : Nat) : RepC O w (cs.take n) g := RepC.mk fun j c hj => by
  rw [List.getElem?_take] at hj
  split at hj
  · exact hh.at_ _ c hj
  · cases hj
/-- A load out of cells that mean cs. -/
theorem run_load_c {O : Nat → Prop} {w : World} {t : TypeId} {b : Bool} {k : Nat} {a : Addr} {cs : List AV} {av : AV} (ht : tyOf P t = some (b, k)) (hc : RepC O w cs (fun j => w.cell? (a.add j)))
    (hav : (b = true ∧ k ≤ cs.length ∧ av = .agg (cs.take k)) ∨ (b = false ∧ cs[0]? = some av)) : ∃ v, (loadVar t a).run P w = .ok v w ∧ Rep O w av v := by
  unfold loadVar
  rw [Sem.run_bind, run_isAgg_ ht]
  rcases hav with ⟨rfl, hk, rfl⟩ | ⟨rfl, hav⟩
  · simp only [Result.andThen_ok, if_true, Sem.run_bind, run_sizeOf_ ht]
    have hall : ∀ j, j < k → ∃ u, w.cell? (a.add j) = some u := fun j hj => by
      obtain ⟨u, hu, _⟩ := hc.at_ j (cs[j]'(by omega)) (List.getElem?_eq_getElem (by omega))
      exact ⟨u, hu⟩
    have hf : ∀ j, j < k → w.cell? (a.add j) = some ((w.cell? (a.add j)).getD undef) := fun j hj => by
      obtain ⟨u, hu⟩ := hall j hj
      rw [hu]; rfl
    have := run_loadCells (P := P) w a k (fun j => (w.cell? (a.add j)).getD undef) hf
    rw [this]
    refine ⟨_, rfl, ?_⟩
    simp only [Rep]
    refine ⟨_, rfl, by simp [Nat.min_eq_left hk], RepC.mk fun j c hj => ?_⟩
    have hjk : j < k := by
      have := (List.getElem?_eq_some_iff.1 hj).1
      simp at this; omega
    obtain ⟨u, hu, hr⟩ := (hc.take k).at_ j c hj
    exact ⟨u, by simp [hjk, hu], hr⟩
  · obtain ⟨u, hu, hr⟩ := hc.at_ 0 av hav
    have e : a.add 0 = a := rfl
    rw [e] at hu
    refine ⟨u, by simp [hu], hr⟩

/-- A place in a block of the call's own. -/
theorem own_cells {w : World} {w0 : Orig} (env : Env X w0 h w) {g : Nat} {T : TypeId} {cs : List AV} (hm : HObj.cells g T cs ∈ h) (off : Nat) : RepC (owned X h) w (cs.drop off) (fun j => w.cell? ((⟨g, off, none⟩ : Addr).add j)) := by
  obtain ⟨us, h1, h2, h3⟩ := env.objs _ hm
  have := h3.drop off
  have e : (fun j => w.cell? ((⟨g, off, none⟩ : Addr).add j)) = (fun j => us[off + j]?) := funext fun j => by
    rw [add_plain]; exact cell_of_row w g (off + j) us T (0, 0) h1
  rw [e]; exact this

theorem p_load_own {t : TypeId} {x : Operand} {g off : Nat} {T : TypeId} {cs : List AV} {b : Bool} {k : Nat} {av : AV} (ho : o.op = .load t x) (hx : evalT f x = .x (.pointer (some ⟨g, off, none⟩))) (hm : HObj.cells g T cs ∈ h) (ht : tyOf P t = some (b, k))
    (hav : (b = true ∧ k ≤ (cs.drop off).length ∧ av = .agg ((cs.drop off).take k)) ∨ (b = false ∧ (cs.drop off)[0]? = some av)) : PureOp P K N X h f o av := pure_run fun a w w0 env H => by
  rw [ho] at H
  have h1 := H x (by simp [Op.operands])
  rw [hx, rep_x] at h1
  obtain ⟨v, hv, hr⟩ := run_load_c ht (own_cells env hm off) hav
  exact ⟨v, by simp [execOp, ho, h1, Instr.loadAt, Instr.sureAddr, hv], hr⟩
theorem p_load_ip {t : TypeId} {x : Operand} {cs : List AV} {b : Bool} {k : Nat} {av : AV} (ho : o.op = .load t x) (hx : evalT f x = .ip cs) (ht : tyOf P t = some (b, k))
    (hav : (b = true ∧ k ≤ cs.length ∧ av = .agg (cs.take k)) ∨ (b = false ∧ cs[0]? = some av)) : PureOp P K N X h f o av := pure_run fun a w w0 env H => by
  rw [ho] at H
  have h1 := H x (by simp [Op.operands])
  rw [hx] at h1
  simp only [Rep] at h1
  obtain ⟨ad, e, _, _, hc⟩ := h1
  obtain ⟨v, hv, hr⟩ := run_load_c ht hc hav
  exact ⟨v, by simp [execOp, ho, e, Instr.loadAt, Instr.sureAddr, hv], hr⟩

theorem run_fieldAt {w : World} {t : TypeId} {j off : Nat} {u : TypeId} {b : Bool} {k : Nat} (hf : tyField P t j = some (off, u)) (hu : tyOf P u = some (b, k)) (hk : k ≠ 0) (a : Addr) : (Instr.fieldAt t (.pointer (some a)) j).run P w = .ok (.pointer (some (a.add off))) w := by
  obtain ⟨fs, fd, h1, h2, h3, h4⟩ := tyField_spec hf
  subst h3 h4
  simp only [Instr.fieldAt, Sem.run_bind, run_underlying h1, Result.andThen_ok, h2, Instr.sureAddr, Sem.run_pure]
  simp [fieldPlace, run_sizeOf_ hu, hk]
theorem p_fieldAddr_own {t : TypeId} {x : Operand} {j g off fo : Nat} {u : TypeId} {b : Bool} {k : Nat} (ho : o.op = .fieldAddr t x j) (hx : evalT f x = .x (.pointer (some ⟨g, off, none⟩))) (hf : tyField P t j = some (fo, u)) (hu : tyOf P u = some (b, k)) (hk : k ≠ 0) :
    PureOp P K N X h f o (.x (.pointer (some ⟨g, off + fo, none⟩))) := pure_run fun a w w0 env H => by
  rw [ho] at H
  have h1 := H x (by simp [Op.operands])
  rw [hx, rep_x] at h1
  refine ⟨_, ?_, rep_x.2 rfl⟩
  have := run_fieldAt (w := w) hf hu hk ⟨g, off, none⟩
  rw [add_plain] at this
  simp [execOp, ho, h1, this]
theorem p_fieldAddr_ip {t : TypeId} {x : Operand} {j fo : Nat} {cs : List AV} {u : TypeId} {b : Bool} {k : Nat} (ho : o.op = .fieldAddr t x j) (hx : evalT f x = .ip cs) (hf : tyField P t j = some (fo, u)) (hu : tyOf P u = some (b, k)) (hk : k ≠ 0) :
    PureOp P K N X h f o (.ip (cs.drop fo)) := pure_run fun a w w0 env H => by
  rw [ho] at H
  have h1 := H x (by simp [Op.operands])
  rw [hx] at h1
  simp only [Rep] at h1
  obtain ⟨ad, e, h2, h3, hc⟩ := h1
  refine ⟨_, by simp [execOp, ho, e, run_fieldAt (w := w) hf hu hk ad]; rfl, ?_⟩
  simp only [Rep]
  refine ⟨_, rfl, by rw [block_of_add]; exact h2, by rw [block_of_add]; exact h3, ?_⟩
  have := hc.drop fo
  have e : (fun j => w.cell? ((ad.add fo).add j)) = (fun j => w.cell? (ad.add (fo + j))) := funext fun j => by rw [add_of_add]
  rw [e]; exact this

theorem p_indexAddr_arr {t e : TypeId} {x y : Operand} {g off n i k : Nat} {b : Bool} {ik : IntKind} {z : Int} (ho : o.op = .indexAddr t x y) (hx : evalT f x = .x (.pointer (some ⟨g, off, none⟩))) (ht : P.underlying t = some (.array n e)) (he : tyOf P e = some (b, k))
    (hy : evalT f y = .x (.int ik z)) (hz : z = (i : Int)) (hi : i < n) : PureOp P K N X h f o (.x (.pointer (some ⟨g, off + i * k, none⟩))) := pure_run fun a w w0 env H => by
  rw [ho] at H
  have h1 := H x (by simp [Op.operands])
  have h2 := H y (by simp [Op.operands])
  rw [hx, rep_x] at h1
  rw [hy, rep_x] at h2
  subst hz
  refine ⟨_, ?_, rep_x.2 rfl⟩
  simp only [execOp, ho, h1, h2, Instr.indexAt, asIntOf, Sem.run_bind, Sem.run_pure, Result.andThen_ok, run_underlying ht, Instr.sureAddr]
  have : (0 : Int) ≤ (i : Int) ∧ (i : Int) < (n : Int) := by omega
  simp [this, run_sizeOf_ he, add_plain, hi]
theorem p_indexAddr_sl {t e : TypeId} {x y : Operand} {k n i : Nat} {cs : List AV} {b : Bool} {ik : IntKind} {z : Int} (ho : o.op = .indexAddr t x y) (hx : evalT f x = .sl k n cs) (ht : P.underlying t = some (.slice e)) (he : tyOf P e = some (b, k)) (hk : k ≠ 0)
    (hy : evalT f y = .x (.int ik z)) (hz : z = (i : Int)) (hi : i < n) : PureOp P K N X h f o (.ip (cs.drop (i * k))) := pure_run fun a w w0 env H => by
  rw [ho] at H
  have h1 := H x (by simp [Op.operands])
  have h2 := H y (by simp [Op.operands])
  rw [hx] at h1
  rw [hy, rep_x] at h2
  subst hz
  simp only [Rep] at h1
  obtain ⟨hl, A, c, e1, hnc, hcm, hor⟩ := h1
  rcases hor with h0 | ⟨ad, rfl, hb, hO, hc⟩
  · rcases Nat.mul_eq_zero.1 h0 with h0 | h0
    · omega
    · exact absurd h0 hk
  · refine ⟨.pointer (some (ad.add (i * k))), ?_, ?_⟩
    · simp only [execOp, ho, e1, h2, Instr.indexAt, asIntOf, Sem.run_bind, Sem.run_pure, Result.andThen_ok, run_underlying ht, Instr.sureAddr]
      have : (0 : Int) ≤ (i : Int) ∧ (i : Int) < (n : Int) := by omega
      simp [this, run_sizeOf_ he, hi]
    · simp only [Rep]
      refine ⟨_, rfl, by rw [block_of_add]; exact hb, by rw [block_of_add]; exact hO, ?_⟩
      have := hc.drop (i * k)
      have e : (fun j => w.cell? ((ad.add (i * k)).add j)) = (fun j => w.cell? (ad.add (i * k + j))) := funext fun j => by rw [add_of_add]
      rw [e]; exact this

/-- A part of a struct or an array. -/
theorem run_part {O : Nat → Prop} {w : World} {t : TypeId} {b : Bool} {k off : Nat} {us : Array Value} {cs : List AV} {av : AV} (ht : tyOf P t = some (b, k)) (hs : us.size = cs.length) (hc : RepC O w cs (fun j => us[j]?))
    (hav : (b = true ∧ off + k ≤ cs.length ∧ av = .agg ((cs.drop off).take k)) ∨ (b = false ∧ cs[off]? = some av)) : ∃ v, (part t us off).run P w = .ok v w ∧ Rep O w av v := by
  unfold part
  rw [Sem.run_bind, run_isAgg_ ht]
  rcases hav with ⟨rfl, hk, rfl⟩ | ⟨rfl, hav⟩
  · simp only [Result.andThen_ok, if_true, Sem.run_bind, run_sizeOf_ ht, Sem.run_pure]
    refine ⟨_, rfl, ?_⟩
    simp only [Rep]
    refine ⟨_, rfl, by simp; omega, RepC.mk fun j c hj => ?_⟩
    obtain ⟨u, hu, hr⟩ := ((hc.drop off).take k).at_ j c hj
    have hjk : j < k := by
      have := (List.getElem?_eq_some_iff.1 hj).1
      simp at this; omega
    refine ⟨u, ?_, hr⟩
    rw [Array.getElem?_extract]
    rw [if_pos (by omega)]
    exact hu
  · obtain ⟨u, hu, hr⟩ := hc.at_ off av hav
    have hu' : us[off]? = some u := hu
    exact ⟨u, by simp [hu'], hr⟩
theorem p_index_arr {t e : TypeId} {x y : Operand} {n i k : Nat} {cs : List AV} {b : Bool} {ik : IntKind} {z : Int} {av : AV} (ho : o.op = .index t x y) (hx : evalT f x = .agg cs) (ht : P.underlying t = some (.array n e)) (he : tyOf P e = some (b, k))
    (hy : evalT f y = .x (.int ik z)) (hz : z = (i : Int)) (hi : i < n) (hav : (b = true ∧ i * k + k ≤ cs.length ∧ av = .agg ((cs.drop (i * k)).take k)) ∨ (b = false ∧ cs[i * k]? = some av)) : PureOp P K N X h f o av := pure_run fun a w w0 env H => by
  rw [ho] at H
  have h1 := H x (by simp [Op.operands])
  have h2 := H y (by simp [Op.operands])
  rw [hx] at h1
  rw [hy, rep_x] at h2
  subst hz
  simp only [Rep] at h1
  obtain ⟨us, e1, hs, hc⟩ := h1
  obtain ⟨v, hv, hr⟩ := run_part he hs hc hav
  refine ⟨v, ?_, hr⟩
  simp only [execOp, ho, e1, h2, Instr.index, asIntOf, Sem.run_bind, Sem.run_pure, Result.andThen_ok, run_underlying ht]
  have : (0 : Int) ≤ (i : Int) ∧ (i : Int) < (n : Int) := by omega
  simp [this, run_sizeOf_ he, hi, hv]
theorem p_len_sl {t e : TypeId} {x : Operand} {k n : Nat} {cs : List AV} (ho : o.op = .call { callee := .builtin .len, args := #[x], argTypes := #[t] }) (hx : evalT f x = .sl k n cs) (ht : P.underlying t = some (.slice e)) : PureOp P K N X h f o (.x (.int .i64 n)) := pure_run fun a w w0 env H => by
  rw [ho] at H
  have h1 := H x (by simp [Op.operands, Call.operands])
  rw [hx] at h1
  simp only [Rep] at h1
  obtain ⟨hl, A, c, e1, hnc, hcm, hor⟩ := h1
  exact ⟨_, by simp [execOp, ho, resolve, invoke, builtin, Builtin.len_, run_underlying ht, e1, goInt], rep_x.2 rfl⟩
theorem p_len_x {t e : TypeId} {x : Operand} {A : Option Addr} {n c : Nat} (ho : o.op = .call { callee := .builtin .len, args := #[x], argTypes := #[t] }) (hx : evalT f x = .x (.slice A n c)) (ht : P.underlying t = some (.slice e)) : PureOp P K N X h f o (.x (.int .i64 n)) := pure_run fun a w w0 env H => by
  rw [ho] at H
  have h1 := H x (by simp [Op.operands, Call.operands])
  rw [hx, rep_x] at h1
  exact ⟨_, by simp [execOp, ho, resolve, invoke, builtin, Builtin.len_, run_underlying ht, h1, goInt], rep_x.2 rfl⟩
theorem p_len_row {t e e' : TypeId} {x : Operand} {v : Value} {k n : Nat} {cs : List AV} (ho : o.op = .call { callee := .builtin .len, args := #[x], argTypes := #[t] }) (hx : evalT f x = .x v) (hm : HObj.row v e' k n cs ∈ h) (ht : P.underlying t = some (.slice e)) : PureOp P K N X h f o (.x (.int .i64 n)) := pure_run fun a w w0 env H => by
  rw [ho] at H
  have h1 := H x (by simp [Op.operands, Call.operands])
  rw [hx, rep_x] at h1
  obtain ⟨vs, ho', _⟩ := env.objs _ hm
  have hv : ∃ A c, v = .slice A n c := by
    rcases ho'.2 with ⟨rfl, rfl⟩ | ⟨g, cap, cur, rfl, _⟩
    · exact ⟨none, 0, rfl⟩
    · exact ⟨_, cap, rfl⟩
  obtain ⟨A, c, rfl⟩ := hv
  exact ⟨_, by simp [execOp, ho, resolve, invoke, builtin, Builtin.len_, run_underlying ht, h1, goInt], rep_x.2 rfl⟩
theorem p_min {t t' : TypeId} {x y : Operand} {k : IntKind} {a b : Int} (ho : o.op = .call { callee := .builtin .min, args := #[x, y], argTypes := #[t, t'] }) (hx : evalT f x = .x (.int k a)) (hy : evalT f y = .x (.int k b)) : PureOp P K N X h f o (.x (.int k (min a b))) := pure_run fun ac w w0 env H => by
  rw [ho] at H
  have h1 := H x (by simp [Op.operands, Call.operands])
  have h2 := H y (by simp [Op.operands, Call.operands])
  rw [hx, rep_x] at h1
  rw [hy, rep_x] at h2
  have : (if b < a then b else a) = min a b := by split <;> omega
  exact ⟨_, by simp [execOp, ho, resolve, invoke, builtin, Builtin.min_, Builtin.min2, h1, h2, this], rep_x.2 rfl⟩
theorem p_max {t t' : TypeId} {x y : Operand} {k : IntKind} {a b : Int} (ho : o.op = .call { callee := .builtin .max, args := #[x, y], argTypes := #[t, t'] }) (hx : evalT f x = .x (.int k a)) (hy : evalT f y = .x (.int k b)) : PureOp P K N X h f o (.x (.int k (max a b))) := pure_run fun ac w w0 env H => by
  rw [ho] at H
  have h1 := H x (by simp [Op.operands, Call.operands])
  have h2 := H y (by simp [Op.operands, Call.operands])
  rw [hx, rep_x] at h1
  rw [hy, rep_x] at h2
  have : (if b > a then b else a) = max a b := by split <;> omega
  exact ⟨_, by simp [execOp, ho, resolve, invoke, builtin, Builtin.max_, Builtin.max2, h1, h2, this], rep_x.2 rfl⟩
end
end Go.Proofs.Ytmhkalalcmkpbaa

namespace Go.Proofs.Ytmhkalalcmkpbaa
open Go Go.RowKit
set_option linter.unusedVariables false
set_option linter.unusedSimpArgs false

/-- Whatever means a means b, too. -/
def Sub (a b : AV) : Prop := ∀ (O : Nat → Prop) (w : World) (v : Value), Rep O w a v → Rep O w b v
theorem Sub.refl {a : AV} : Sub a a := fun _ _ _ h => h
theorem Sub.of_eq {a b : AV} (h : a = b) : Sub a b := h ▸ Sub.refl
theorem Sub.trans {a b c : AV} (h : Sub a b) (k : Sub b c) : Sub a c := fun O w v x => k O w v (h O w v x)
theorem Sub.any {a : AV} : Sub a .any := fun _ _ _ _ => by simp only [Rep]
theorem Sub.nil_ {k : Nat} : Sub (.x (.slice none 0 0)) (.sl k 0 []) := fun O w v h => by
  rw [rep_x] at h; subst h
  simp only [Rep]
  exact ⟨by simp, none, 0, rfl, Nat.le_refl _, by omega, .inl (by simp)⟩
def SubL : List AV → List AV → Prop
  | [], [] => True
  | a :: xs, b :: bs => Sub a b ∧ SubL xs bs
  | _, _ => False
theorem SubL.refl : ∀ (l : List AV), SubL l l
  | [] => trivial
  | _ :: l => ⟨Sub.refl, SubL.refl l⟩
theorem SubL.of_eq {a b : List AV} (h : a = b) : SubL a b := h ▸ SubL.refl a
theorem SubL.len : ∀ {xs bs : List AV}, SubL xs bs → xs.length = bs.length
  | [], [], _ => rfl
  | _ :: _, _ :: _, h => by simp [SubL.len h.2]
theorem SubL.repC {O : Nat → Prop} {w : World} : ∀ {xs bs : List AV} {f : Nat → Option Value}, SubL xs bs → RepC O w xs f → RepC O w bs f
  | [], [], _, _, _ => by simp [RepC]
  | a :: xs, b :: bs, f, h, k => by
    simp only [RepC] at k ⊢
    obtain ⟨⟨u, hu, hr⟩, k2⟩ := k
    exact ⟨⟨u, hu, h.1 O w u hr⟩, SubL.repC h.2 k2⟩
theorem Sub.agg {xs bs : List AV} (h : SubL xs bs) : Sub (.agg xs) (.agg bs) := fun O w v k => by
  simp only [Rep] at k ⊢
  obtain ⟨us, h1, h2, h3⟩ := k
  exact ⟨us, h1, h2.trans h.len, h.repC h3⟩

/-- A function gives a value that means av, of arguments that mean avs; and writes nothing that was there. -/
structure PFn (P : Program) (K : Prop) (g : FuncId) (avs : List AV) (av : AV) : Prop where
  enter : ∀ (args : Array Value) (w : World), (callFunc g args).run P w = .ok (.enter g args) w
  calls : ∀ (O : Nat → Prop) (w : World) (args : Array Value), (∀ b, O b → b < w.heap.size) → args.size = avs.length → RepC O w avs (fun j => args[j]?) →
    Calls P g args w fun e w' => ∃ r, e = .returned r ∧ Rep O w' av r ∧ Bl K w w'

theorem PFn.sub {P : Program} {K : Prop} {g : FuncId} {avs : List AV} {av av' : AV} (h : PFn P K g avs av) (hs : Sub av av') : PFn P K g avs av' :=
  ⟨h.enter, fun O w args hO hl hr => (h.calls O w args hO hl hr).mono fun e w' ⟨r, h1, h2, h3⟩ => ⟨r, h1, hs _ _ _ h2, h3⟩⟩

theorem enter_of {P : Program} {g : FuncId} {fn : Func} (hf : P.funcs[g]? = some fn) (hn : (fn.name == "runtime.NumGoroutine") = false) (hb : fn.body.isNone = false) (args : Array Value) (w : World) : (callFunc g args).run P w = .ok (.enter g args) w := by
  have hn' : fn.name ≠ "runtime.NumGoroutine" := by simpa using hn
  have hb' : fn.body ≠ none := by intro e; rw [e] at hb; cases hb
  simp [callFunc, hf, hn', hb']

section
variable {P : Program} {K : Prop} {N : Nat} {X : Nat → Prop} {h : List HObj} {f : Nat → AV} {o : Oper}

theorem args_repC {O : Nat → Prop} {w : World} {a : Act} : ∀ {l : List Operand} {avs : List AV}, (∀ x ∈ l, Rep O w (evalT f x) (a.eval x)) → SubL (l.map (evalT f)) avs → RepC O w avs (fun j => (l.map a.eval)[j]?)
  | [], [], _, _ => by simp [RepC]
  | [], _ :: _, _, hs => hs.elim
  | _ :: _, [], _, hs => hs.elim
  | x :: l, b :: bs, hr, hs => by
    simp only [RepC]
    refine ⟨⟨a.eval x, rfl, hs.1 _ _ _ (hr x (by simp))⟩, ?_⟩
    exact args_repC (fun y hy => hr y (by simp [hy])) hs.2

theorem p_call {g : FuncId} {xs : Array Operand} {ts : Array TypeId} {avs : List AV} {av : AV} (ho : o.op = .call { callee := .value (.func g), args := xs, argTypes := ts }) (hp : PFn P K g avs av) (hs : SubL (xs.toList.map (evalT f)) avs) :
    PureOp P K N X h f o av := by
  intro a w w0 hK env hsz hr next Q hk
  have hr' : ∀ x ∈ xs.toList, Rep (owned X h) w (evalT f x) (a.eval x) := fun x hx => by
    have hm : x ∈ o.op.operands.toList := by rw [ho]; simp [Op.operands, Call.operands]; exact .inr (by simpa using hx)
    cases x with
    | tmp t => exact hr t (opRds_mem hm)
    | const v => simp only [evalT, Rep, Act.eval]
    | global g => simp only [evalT, Rep, Act.eval]
    | func g => simp only [evalT, Rep, Act.eval]
  have hrun : (execOp a.eval o).run P w = .ok (.enter g (xs.map a.eval)) w := by
    simp [execOp, ho, resolve, Act.eval, Deferred.ofValue, invoke, hp.enter]
  unfold Oper.wp
  rw [hrun]
  simp only [Oper.upon]
  have hl : (xs.map a.eval).size = avs.length := by rw [← hs.len]; simp
  have hR := args_repC (O := owned X h) (w := w) (a := a) hr' hs
  have e : (fun j => (xs.map a.eval)[j]?) = (fun j => (xs.toList.map a.eval)[j]?) := funext fun j => by rw [← Array.getElem?_toList, Array.toList_map]
  refine (hp.calls (owned X h) w (xs.map a.eval) (fun b hb => owned_lt env hb) hl (by rw [e]; exact hR)).mono ?_
  rintro e w' ⟨r, rfl, h2, h3⟩
  exact hk r w' h3 h2

/-- A call of a function value that was made with what it caught. -/
theorem p_callv {g : FuncId} {x : Operand} {us : List Value} {xs : Array Operand} {ts : Array TypeId} {avs : List AV} {av : AV} (ho : o.op = .call { callee := .value x, args := xs, argTypes := ts }) (hx : evalT f x = .x (.func (.func g) #[] us.toArray)) (hp : PFn P K g avs av) (hs : SubL (xs.toList.map (evalT f) ++ us.map .x) avs) :
    PureOp P K N X h f o av := by
  intro a w w0 hK env hsz hr next Q hk
  have all : ∀ x ∈ o.op.operands.toList, Rep (owned X h) w (evalT f x) (a.eval x) := fun x hx => by
    cases x with
    | tmp t => exact hr t (opRds_mem hx)
    | const v => simp only [evalT, Rep, Act.eval]
    | global g => simp only [evalT, Rep, Act.eval]
    | func g => simp only [evalT, Rep, Act.eval]
  rw [ho] at all
  have h0 := all x (by simp [Op.operands, Call.operands])
  rw [hx, rep_x] at h0
  have hr' : ∀ x ∈ xs.toList, Rep (owned X h) w (evalT f x) (a.eval x) := fun y hy => all y (by simp [Op.operands, Call.operands]; exact .inr (by simpa using hy))
  have hrun : (execOp a.eval o).run P w = .ok (.enter g (xs.map a.eval ++ us.toArray)) w := by
    simp [execOp, ho, resolve, h0, Deferred.ofValue, invoke, hp.enter]
  unfold Oper.wp
  rw [hrun]
  simp only [Oper.upon]
  have hl : (xs.map a.eval ++ us.toArray).size = avs.length := by rw [← hs.len]; simp
  have hR : RepC (owned X h) w avs (fun j => (xs.toList.map a.eval ++ us)[j]?) := by
    refine hs.repC (RepC.mk fun j c hj => ?_)
    rw [List.getElem?_append] at hj ⊢
    simp only [List.length_map] at hj ⊢
    split at hj
    · rename_i hlt
      rw [if_pos hlt]
      rw [List.getElem?_map, Option.map_eq_some_iff] at hj
      obtain ⟨y, hy, rfl⟩ := hj
      exact ⟨a.eval y, by simp [List.getElem?_map, hy], hr' y (List.mem_of_getElem? hy)⟩
    · rename_i hlt
      rw [if_neg hlt]
      rw [List.getElem?_map, Option.map_eq_some_iff] at hj
      obtain ⟨y, hy, rfl⟩ := hj
      exact ⟨y, hy, rep_x.2 rfl⟩
  have e : (fun j => (xs.map a.eval ++ us.toArray)[j]?) = (fun j => (xs.toList.map a.eval ++ us)[j]?) := funext fun j => by
    rw [← Array.getElem?_toList, Array.toList_append, Array.toList_map]
  refine (hp.calls (owned X h) w _ (fun b hb => owned_lt env hb) hl (by rw [e]; exact hR)).mono ?_
  rintro e w' ⟨r, rfl, h2, h3⟩
  exact hk r w' h3 h2
end

section
variable {P : Program} {K : Prop} {N : Nat} {X : Nat → Prop} {h : List HObj} {f : Nat → AV} {o : Oper}
theorem p_makeFn {g : FuncId} {first captured : Array Operand} {cs : List AV} (ho : o.op = .makeFunc (.func g) first captured) (h0 : first = #[]) (hc : SubL (captured.toList.map (evalT f)) cs) : PureOp P K N X h f o (.fn g cs) := pure_run fun a w w0 env H => by
  rw [ho] at H
  subst h0
  refine ⟨.func (.func g) #[] (captured.map a.eval), by simp [execOp, ho, Instr.makeFunc], ?_⟩
  simp only [Rep]
  refine ⟨_, rfl, by rw [← hc.len]; simp, ?_⟩
  have e : (fun j => (captured.map a.eval)[j]?) = (fun j => (captured.toList.map a.eval)[j]?) := funext fun j => by rw [← Array.getElem?_toList, Array.toList_map]
  rw [e]
  exact args_repC (fun x hx => H x (by simp [Op.operands]; simpa using hx)) hc
/-- A call of a function value. -/
theorem p_callf {g : FuncId} {x : Operand} {cs : List AV} {xs : Array Operand} {ts : Array TypeId} {avs : List AV} {av : AV} (ho : o.op = .call { callee := .value x, args := xs, argTypes := ts }) (hx : evalT f x = .fn g cs) (hp : PFn P K g avs av) (hs : SubL (xs.toList.map (evalT f) ++ cs) avs) :
    PureOp P K N X h f o av := by
  intro a w w0 hK env hsz hr next Q hk
  have all : ∀ x ∈ o.op.operands.toList, Rep (owned X h) w (evalT f x) (a.eval x) := fun x hx => by
    cases x with
    | tmp t => exact hr t (opRds_mem hx)
    | const v => simp only [evalT, Rep, Act.eval]
    | global g => simp only [evalT, Rep, Act.eval]
    | func g => simp only [evalT, Rep, Act.eval]
  rw [ho] at all
  have h0 := all x (by simp [Op.operands, Call.operands])
  rw [hx] at h0
  simp only [Rep] at h0
  obtain ⟨us, h0, h01, h02⟩ := h0
  have hr' : ∀ x ∈ xs.toList, Rep (owned X h) w (evalT f x) (a.eval x) := fun y hy => all y (by simp [Op.operands, Call.operands]; exact .inr (by simpa using hy))
  have hrun : (execOp a.eval o).run P w = .ok (.enter g (xs.map a.eval ++ us)) w := by
    simp [execOp, ho, resolve, h0, Deferred.ofValue, invoke, hp.enter]
  unfold Oper.wp
  rw [hrun]
  simp only [Oper.upon]
  have hl : (xs.map a.eval ++ us).size = avs.length := by rw [← hs.len]; simp [h01]
  have hR : RepC (owned X h) w avs (fun j => (xs.toList.map a.eval ++ us.toList)[j]?) := by
    refine hs.repC (RepC.mk fun j c hj => ?_)
    rw [List.getElem?_append] at hj ⊢
    simp only [List.length_map] at hj ⊢
    split at hj
    · rename_i hlt
      rw [if_pos hlt]
      rw [List.getElem?_map, Option.map_eq_some_iff] at hj
      obtain ⟨y, hy, rfl⟩ := hj
      exact ⟨a.eval y, by simp [List.getElem?_map, hy], hr' y (List.mem_of_getElem? hy)⟩
    · rename_i hlt
      rw [if_neg hlt]
      obtain ⟨u, hu, hru⟩ := h02.at_ _ c hj
      exact ⟨u, Array.getElem?_toList.trans hu, hru⟩
  have e : (fun j => (xs.map a.eval ++ us)[j]?) = (fun j => (xs.toList.map a.eval ++ us.toList)[j]?) := funext fun j => by
    rw [← Array.getElem?_toList, Array.toList_append, Array.toList_map]
  refine (hp.calls (owned X h) w _ (fun b hb => owned_lt env hb) hl (by rw [e]; exact hR)).mono ?_
  rintro e w' ⟨r, rfl, h2, h3⟩
  exact hk r w' h3 h2
end

/-- What a value that the call may have made means to its caller. -/
def Gives (X : Nat → Prop) (h : List HObj) (a b : AV) : Prop := ∀ (w0 : Orig) (w : World) (v : Value), Env X w0 h w → Rep (owned X h) w a v → Rep X w b v
theorem gives_sub {X : Nat → Prop} {h : List HObj} {a b : AV} (hs : Sub a b) : Gives X h a b := fun w0 w v env hr => Rep.mono (Kept.refl _ _) (fun b _ hb => .inl hb) _ _ (hs _ _ _ hr)
theorem gives_refl {X : Nat → Prop} {h : List HObj} {a : AV} : Gives X h a a := gives_sub Sub.refl
theorem Gives.sub {X : Nat → Prop} {h : List HObj} {a b c : AV} (hg : Gives X h a b) (hs : Sub b c) : Gives X h a c := fun w0 w v env hr => hs _ _ _ (hg w0 w v env hr)
theorem RepC.giv {X : Nat → Prop} {h : List HObj} {w : World} {cs : List AV} {g : Nat → Option Value} (hr : RepC (owned X h) w cs g) : RepC X w cs g := RepC.mono (Kept.refl _ _) (fun b _ hb => .inl hb) _ _ hr
theorem gives_row {X : Nat → Prop} {h : List HObj} {v : Value} {e : TypeId} {k n : Nat} {cs : List AV} (hm : HObj.row v e k n cs ∈ h) : Gives X h (.x v) (.sl k n cs) := fun w0 w u env hr => by
  rw [rep_x] at hr; subst hr
  obtain ⟨vs, h1, h2, h3⟩ := env.objs _ hm
  simp only [Rep]
  refine ⟨by rw [← h2]; exact h1.1, ?_⟩
  rcases h1.2 with ⟨rfl, rfl⟩ | ⟨g, cap, cur, rfl, hb, hh, hn, hc, hs, ht⟩
  · exact ⟨none, 0, rfl, Nat.le_refl _, by omega, .inl (by simp)⟩
  · simp only [maxLen] at hc
    refine ⟨_, cap, rfl, hn, hc, .inr ⟨_, rfl, ?_, ?_, ?_⟩⟩
    · exact (Array.getElem?_eq_some_iff.1 hh).1
    · intro hx
      have h5 := env.ext _ hx
      have h6 := env.new _ hm g rfl
      simp only at h5
      rcases h6 with h6 | h6
      · omega
      · exact h5.2 h6
    · have e : RepC X w cs (fun j => vs[j]?) := h3.giv
      refine RepC.mk fun j c hj => ?_
      obtain ⟨u, hu, hr⟩ := e.at_ j c hj
      exact ⟨u, h1.cells (g := g) rfl j u hu, hr⟩
/-- A block that the call made, and writes no more, is one that can be read. -/
theorem gives_ip {X : Nat → Prop} {h : List HObj} {g : Nat} {T : TypeId} {cs : List AV} (hm : HObj.cells g T cs ∈ h) : Gives X h (.x (.pointer (some ⟨g, 0, none⟩))) (.ip cs) := fun w0 w u env hr => by
  rw [rep_x] at hr; subst hr
  have hc := (own_cells env hm 0).giv
  simp only [Rep]
  refine ⟨_, rfl, env.lt _ hm g rfl, ?_, by simpa using hc⟩
  intro hx
  have h5 := env.ext _ hx
  have h6 := env.new _ hm g rfl
  simp only at h5
  rcases h6 with h6 | h6
  · omega
  · exact h5.2 h6
def GivesL (X : Nat → Prop) (h : List HObj) : List AV → List AV → Prop
  | [], [] => True
  | a :: xs, b :: bs => Gives X h a b ∧ GivesL X h xs bs
  | _, _ => False
theorem GivesL.refl {X : Nat → Prop} {h : List HObj} : ∀ (l : List AV), GivesL X h l l
  | [] => trivial
  | _ :: l => ⟨gives_refl, GivesL.refl l⟩
theorem GivesL.append {X : Nat → Prop} {h : List HObj} : ∀ {a b c d : List AV}, GivesL X h a b → GivesL X h c d → GivesL X h (a ++ c) (b ++ d)
  | [], [], _, _, _, k => k
  | _ :: _, _ :: _, _, _, g, k => ⟨g.1, GivesL.append g.2 k⟩
theorem GivesL.len {X : Nat → Prop} {h : List HObj} : ∀ {xs bs : List AV}, GivesL X h xs bs → xs.length = bs.length
  | [], [], _ => rfl
  | _ :: _, _ :: _, h => by simp [GivesL.len h.2]
theorem GivesL.repC {X : Nat → Prop} {h : List HObj} {w0 : Orig} {w : World} (env : Env X w0 h w) : ∀ {xs bs : List AV} {f : Nat → Option Value}, GivesL X h xs bs → RepC (owned X h) w xs f → RepC X w bs f
  | [], [], _, _, _ => by simp [RepC]
  | a :: xs, b :: bs, f, g, k => by
    simp only [RepC] at k ⊢
    obtain ⟨⟨u, hu, hr⟩, k2⟩ := k
    exact ⟨⟨u, hu, g.1 w0 w u env hr⟩, GivesL.repC env g.2 k2⟩
def rvRun (tmps : Array Value) : ResultVar → Sem Value
  | .tmp t => pure (tmps.getD t undef)
  | .cell p T => do loadVar T (← asAddr (tmps.getD p undef))
theorem results_eq (fn : Func) (tmps : Array Value) : results fn tmps = (do
    let vs ← fn.results.mapM (rvRun tmps)
    pure (if h : vs.size = 1 then vs[0] else .tuple vs)) := by
  unfold results
  congr 1

theorem gives_fn {X : Nat → Prop} {h : List HObj} {f : FuncId} {xs bs : List AV} (hg : GivesL X h xs bs) : Gives X h (.fn f xs) (.fn f bs) := fun w0 w v env hr => by
  simp only [Rep] at hr ⊢
  obtain ⟨us, h1, h2, h3⟩ := hr
  exact ⟨us, h1, h2.trans hg.len, hg.repC env h3⟩

/-- One result. -/
def RG (P : Program) (N : Nat) (X : Nat → Prop) (s : AS) (rv : ResultVar) (av : AV) : Prop := ∀ (w0 : Orig) (w : World) (a : Act), St N X w0 s a w →
  ∃ v, (rvRun a.tmps rv).run P w = .ok v w ∧ Rep X w av v
theorem rg_tmp {P : Program} {N : Nat} {X : Nat → Prop} {s : AS} {t : Nat} {av : AV} (hg : Gives X s.h (s.t t) av) : RG P N X s (.tmp t) av := fun w0 w a hs =>
  ⟨_, rfl, hg w0 w _ hs.env (hs.slots.slot t)⟩
theorem rg_cell {P : Program} {N : Nat} {X : Nat → Prop} {s : AS} {t g : Nat} {T T' : TypeId} {cs : List AV} {b : Bool} {k : Nat} {av av' : AV} (hx : s.t t = .x (.pointer (some ⟨g, 0, none⟩))) (hm : HObj.cells g T' cs ∈ s.h) (ht : tyOf P T = some (b, k))
    (hav : (b = true ∧ k ≤ cs.length ∧ av = .agg (cs.take k)) ∨ (b = false ∧ cs[0]? = some av)) (hg : Gives X s.h av av') : RG P N X s (.cell t T) av' := fun w0 w a hs => by
  have h1 := hs.slots.slot t
  rw [hx, rep_x] at h1
  have hc := own_cells hs.env hm 0
  obtain ⟨v, hv, hr⟩ := run_load_c ht hc (by simpa using hav)
  exact ⟨v, by simp only [rvRun, h1, asAddr, Sem.run_bind, Sem.run_pure, Result.andThen_ok, hv], hg w0 w v hs.env hr⟩

/-- All results. -/
def RGs (P : Program) (N : Nat) (X : Nat → Prop) (s : AS) (rs : Array ResultVar) (av : AV) : Prop := ∀ (w0 : Orig) (w : World) (a : Act), St N X w0 s a w → ∀ fn : Func, fn.results = rs → ∃ v, (results fn a.tmps).run P w = .ok v w ∧ Rep X w av v
theorem rgs1 {P : Program} {N : Nat} {X : Nat → Prop} {s : AS} {r1 : ResultVar} {av : AV} (h1 : RG P N X s r1 av) : RGs P N X s #[r1] av := fun w0 w a hs fn hf => by
  obtain ⟨v, hv, hr⟩ := h1 w0 w a hs
  refine ⟨v, ?_, hr⟩
  rw [results_eq, hf]; simp [hv]
theorem rgs2 {P : Program} {N : Nat} {X : Nat → Prop} {s : AS} {r1 r2 : ResultVar} {a1 a2 : AV} (h1 : RG P N X s r1 a1) (h2 : RG P N X s r2 a2) : RGs P N X s #[r1, r2] (.tup [a1, a2]) := fun w0 w a hs fn hf => by
  obtain ⟨v, hv, hr⟩ := h1 w0 w a hs
  obtain ⟨u, hu, hq⟩ := h2 w0 w a hs
  refine ⟨.tuple #[v, u], ?_, ?_⟩
  · rw [results_eq, hf]; simp [hv, hu]
  · simp only [Rep]
    exact ⟨_, rfl, rfl, by simp only [RepC]; exact ⟨⟨v, rfl, hr⟩, ⟨u, rfl, hq⟩, trivial⟩⟩
/-- The walk's end. -/
def Ends (P : Program) (C : Cx) (rs : Array ResultVar) (av : AV) : Exit → AS → Prop
  | .normal, s => RGs P C.N C.X s rs av
  | .ret, s => RGs P C.N C.X s rs av
  | _, _ => False

def args0 (avs : List AV) : Nat → AV := fun t => (avs[t]?).getD .any

theorem pfn_of {P : Program} {K : Prop} {g : FuncId} {fn : Func} {c : Code} {avs : List AV} {av : AV} (hf : P.funcs[g]? = some fn) (hb : fn.body = some c) (hn : (fn.name == "runtime.NumGoroutine") = false) (N : Nat) (hN : fn.ntmps = N) (rs : Array ResultVar) (hrs : fn.results = rs) (hl : avs.length ≤ N)
    (H : ∀ (X : Nat → Prop) (w0 : World), AW P ⟨N, X, ⟨w0, fun _ => False, K⟩⟩ c (Ends P ⟨N, X, ⟨w0, fun _ => False, K⟩⟩ rs av) ⟨args0 avs, []⟩) : PFn P K g avs av := by
  refine ⟨enter_of hf hn (by rw [hb]; rfl), fun O w args hO hsz hr => ?_⟩
  refine calls_of_wp hf hb ?_
  have hst : (Cx.mk N O ⟨w, fun _ => False, K⟩).St ⟨args0 avs, []⟩ { tmps := args ++ Array.replicate (fn.ntmps - args.size) undef, defers := [] } w := by
    refine ⟨⟨Chg.refl _ _ _, fun o ho => by simp at ho, fun o ho => by simp at ho, fun o ho => by simp at ho, fun b hb => ⟨hO b hb, fun h => h⟩, fun i j o p b hi => by simp at hi⟩, rfl, ?_, fun t => ?_⟩
    · simp; omega
    · show Rep _ _ ((avs[t]?).getD .any) _
      cases hv : avs[t]? with
      | none => simp only [Option.getD_none, Rep]
      | some av =>
        obtain ⟨u, hu, hru⟩ := hr.at_ t av hv
        have hu' : args[t]? = some u := hu
        have hlt : t < args.size := (Array.getElem?_eq_some_iff.1 hu').1
        have e : (args ++ Array.replicate (fn.ntmps - args.size) undef).getD t undef = u := by
          rw [Array.getD_eq_getD_getElem?, Array.getElem?_append_left hlt, hu']; rfl
        simp only [Option.getD_some]
        show Rep _ _ _ ((args ++ Array.replicate (fn.ntmps - args.size) undef).getD t undef)
        rw [e]
        exact Rep.mono (Kept.refl _ _) (fun b _ hb => by rcases hb with hb | ⟨o, ho, _⟩; exact hb; simp at ho) _ _ hru
  refine wp_mono (H O w _ w hst) fun e a w' ⟨s, hs, hq⟩ => ?_
  cases e with
  | normal =>
    obtain ⟨v, hv, hr⟩ := hq ⟨w, fun _ => False, K⟩ w' a hs fn hrs
    exact ⟨hs.slots.defers, v, hv, v, rfl, hr, hs.env.below.none⟩
  | ret =>
    obtain ⟨v, hv, hr⟩ := hq ⟨w, fun _ => False, K⟩ w' a hs fn hrs
    exact ⟨hs.slots.defers, v, hv, v, rfl, hr, hs.env.below.none⟩
  | _ => exact hq.elim
end Go.Proofs.Ytmhkalalcmkpbaa
