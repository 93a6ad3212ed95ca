/-
  Tools A1
-/
import Derived.Test.YtpehmadeklaebaaZInv
import Derived.Test.YtpehmadeklaebaaZMem2
import Derived.Lib.Hide
import Derived.StillTailTactics
namespace Go.Proofs.Ytpehmadeklaebaa
open Go.RowKit
set_option linter.unusedVariables false
/-- Below, in a form that is not taken apart. -/
def KB (w W : World) : Prop := (Below w.heap.size w W) = True
theorem KB.mk {w W : World} (h : Below w.heap.size w W) : KB w W := eq_true h
theorem KB.out {w W : World} (h : KB w W) : Below w.heap.size w W := of_eq_true h
theorem KB.call {w W W' : World} (hb : Below W.heap.size W W') (h : KB w W) : KB w W' := .mk (h.out.trans (hb.mono h.out.size))
theorem KB.drewN {w W : World} (h : KB w W) (q : Nat) : KB w (W.drewN q) := .mk (below_drewN h.out q)
theorem KB.alloc {w W : World} (h : KB w W) (o : Obj) : KB w (W.alloc o) := .mk (h.out.alloc h.out.size o)
end Go.Proofs.Ytpehmadeklaebaa

namespace Go.Proofs.Ytpehmadeklaebaa
open Go Go.RowKit
set_option linter.unusedVariables false
set_option linter.unusedSimpArgs false

/-- What a value means: just this value; a slice that nobody writes, of n elements of k cells each; a struct or an array; several results; whatever. -/
inductive AV where
  | x (v : Value)
  | sl (k n : Nat) (cs : List AV)
  | agg (cs : List AV)
  | tup (cs : List AV)
  | ip (cs : List AV)
  | fn (f : FuncId) (cs : List AV)
  | any

mutual
def Rep (O : Nat → Prop) (w : World) : AV → Value → Prop
  | .x u, v => v = u
  | .sl k n cs, v => cs.length = n * k ∧ ∃ A c, v = .slice A n c ∧ n ≤ c ∧ c ≤ 9223372036854775807 ∧
      (n * k = 0 ∨ ∃ ad, A = some ad ∧ ad.block < w.heap.size ∧ ¬ O ad.block ∧ RepC O w cs (fun j => w.cell? (ad.add j)))
  | .agg cs, v => ∃ us : Array Value, v = .agg us ∧ us.size = cs.length ∧ RepC O w cs (fun j => us[j]?)
  | .tup cs, v => ∃ us : Array Value, v = .tuple us ∧ us.size = cs.length ∧ RepC O w cs (fun j => us[j]?)
  | .ip cs, v => ∃ ad : Addr, v = .pointer (some ad) ∧ ad.block < w.heap.size ∧ ¬ O ad.block ∧ RepC O w cs (fun j => w.cell? (ad.add j))
  | .fn f cs, v => ∃ us : Array Value, v = .func (.func f) #[] us ∧ us.size = cs.length ∧ RepC O w cs (fun j => us[j]?)
  | .any, _ => True
def RepC (O : Nat → Prop) (w : World) : List AV → (Nat → Option Value) → Prop
  | [], _ => True
  | c :: cs, f => (∃ u, f 0 = some u ∧ Rep O w c u) ∧ RepC O w cs (fun j => f (j + 1))
end

def AV.one : AV → Bool
  | .x v => v.oneCell'
  | .sl _ _ _ => true
  | .ip _ => true
  | .fn _ _ => true
  | _ => false
def AV.cells : AV → List AV
  | .agg cs => cs
  | v => [v]

theorem Rep.one {O : Nat → Prop} {w : World} {c : AV} {u : Value} (h : Rep O w c u) (h1 : c.one = true) : u.oneCell' = true := by
  cases c with
  | x v => simp only [Rep] at h; subst h; exact h1
  | sl k n cs => simp only [Rep] at h; obtain ⟨_, A, c, rfl, _⟩ := h; rfl
  | agg cs => cases h1
  | tup cs => cases h1
  | ip cs => simp only [Rep] at h; obtain ⟨ad, rfl, _⟩ := h; rfl
  | fn f cs => simp only [Rep] at h; obtain ⟨us, rfl, _⟩ := h; rfl
  | any => cases h1

theorem RepC.at_ {O : Nat → Prop} {w : World} : ∀ {cs : List AV} {f : Nat → Option Value}, RepC O w cs f → ∀ (j : Nat) (c : AV), cs[j]? = some c → ∃ u, f j = some u ∧ Rep O w c u
  | [], _, _, j, c, hj => by simp at hj
  | d :: ds, f, h, 0, c, hj => by
    simp only [RepC] at h
    obtain rfl : d = c := by simpa using hj
    exact h.1
  | d :: ds, f, h, j + 1, c, hj => by
    simp only [RepC] at h
    exact RepC.at_ (f := fun j => f (j + 1)) h.2 j c (by simpa using hj)

theorem RepC.mk {O : Nat → Prop} {w : World} : ∀ {cs : List AV} {f : Nat → Option Value}, (∀ (j : Nat) (c : AV), cs[j]? = some c → ∃ u, f j = some u ∧ Rep O w c u) → RepC O w cs f
  | [], _, _ => by simp [RepC]
  | d :: ds, f, h => by
    simp only [RepC]
    exact ⟨h 0 d rfl, RepC.mk fun j c hj => h (j + 1) c (by simpa using hj)⟩

/-- What a step may do to memory that somebody else's values lie in. -/
def Kept (O : Nat → Prop) (w w' : World) : Prop := w.heap.size ≤ w'.heap.size ∧ ∀ b, b < w.heap.size → ¬ O b → w'.heap[b]? = w.heap[b]?
theorem Kept.refl (O : Nat → Prop) (w : World) : Kept O w w := ⟨Nat.le_refl _, fun _ _ _ => rfl⟩
theorem Kept.of_below {O : Nat → Prop} {w w' : World} (h : Below w.heap.size w w') : Kept O w w' := ⟨h.size, fun b hb _ => h.block b hb⟩

mutual
theorem Rep.mono {O O' : Nat → Prop} {w w' : World} (hk : Kept O w w') (hO : ∀ b, b < w.heap.size → O' b → O b) : ∀ (c : AV) (v : Value), Rep O w c v → Rep O' w' c v
  | .x u, v, h => by simp only [Rep] at h ⊢; exact h
  | .sl k n cs, v, h => by
    simp only [Rep] at h ⊢
    obtain ⟨h0, A, c, h1, h2, h3, h4⟩ := h
    refine ⟨h0, A, c, h1, h2, h3, ?_⟩
    rcases h4 with h4 | ⟨ad, rfl, h5, h6, h7⟩
    · exact .inl h4
    · refine .inr ⟨ad, rfl, Nat.lt_of_lt_of_le h5 hk.1, fun h => h6 (hO _ h5 h), ?_⟩
      have := RepC.mono hk hO cs (fun j => w.cell? (ad.add j)) h7
      have e : (fun j => w'.cell? (ad.add j)) = (fun j => w.cell? (ad.add j)) := funext fun j => World.cell?_of_block (by rw [block_of_add]; exact hk.2 _ h5 h6)
      rw [e]; exact this
  | .agg cs, v, h => by
    simp only [Rep] at h ⊢
    obtain ⟨us, h1, h2, h3⟩ := h
    exact ⟨us, h1, h2, RepC.mono hk hO cs _ h3⟩
  | .tup cs, v, h => by
    simp only [Rep] at h ⊢
    obtain ⟨us, h1, h2, h3⟩ := h
    exact ⟨us, h1, h2, RepC.mono hk hO cs _ h3⟩
  | .ip cs, v, h => by
    simp only [Rep] at h ⊢
    obtain ⟨ad, rfl, h5, h6, h7⟩ := h
    refine ⟨ad, rfl, Nat.lt_of_lt_of_le h5 hk.1, fun h => h6 (hO _ h5 h), ?_⟩
    have := RepC.mono hk hO cs (fun j => w.cell? (ad.add j)) h7
    have e : (fun j => w'.cell? (ad.add j)) = (fun j => w.cell? (ad.add j)) := funext fun j => World.cell?_of_block (by rw [block_of_add]; exact hk.2 _ h5 h6)
    rw [e]; exact this
  | .fn f cs, v, h => by
    simp only [Rep] at h ⊢
    obtain ⟨us, h1, h2, h3⟩ := h
    exact ⟨us, h1, h2, RepC.mono hk hO cs _ h3⟩
  | .any, v, h => by simp only [Rep]
theorem RepC.mono {O O' : Nat → Prop} {w w' : World} (hk : Kept O w w') (hO : ∀ b, b < w.heap.size → O' b → O b) : ∀ (cs : List AV) (f : Nat → Option Value), RepC O w cs f → RepC O' w' cs f
  | [], f, h => by simp only [RepC]
  | c :: cs, f, h => by
    simp only [RepC] at h ⊢
    obtain ⟨⟨u, hu, h1⟩, h2⟩ := h
    exact ⟨⟨u, hu, Rep.mono hk hO c u h1⟩, RepC.mono hk hO cs _ h2⟩
end

/-- What the call has made and writes: a block of cells; a row that grows. -/
inductive HObj where
  | cells (g : Nat) (T : TypeId) (cs : List AV)
  | row (v : Value) (e : TypeId) (k n : Nat) (cs : List AV)
  | dead

def HObj.blk : HObj → Option Nat
  | .cells g _ _ => some g
  | .row v _ _ _ _ => v.ownBlock
  | .dead => none

def HObj.ok (O : Nat → Prop) (w : World) : HObj → Prop
  | .cells g T cs => ∃ us : Array Value, w.heap[g]? = some (.cells us T (0, 0)) ∧ us.size = cs.length ∧ RepC O w cs (fun j => us[j]?)
  | .row v e k n cs => ∃ vs : List Value, w.ownsRow 0 e k v n vs ∧ vs.length = cs.length ∧ RepC O w cs (fun j => vs[j]?)
  | .dead => True

/-- The blocks that change: those that were the callers' own, and this call's own. -/
def owned (X : Nat → Prop) (h : List HObj) (b : Nat) : Prop := X b ∨ ∃ o ∈ h, o.blk = some b

/-- What a call began with: the world, and the blocks that it may write. -/
structure Orig where
  w : World
  F : Nat → Prop
  K : Prop
/-- Nothing that was there has turned; and (K) no draw was taken back. -/
structure Bl (K : Prop) (w w' : World) : Prop where
  b : Below w.heap.size w w'
  d : K → w.drawn ≤ w'.drawn
theorem Bl.refl (K : Prop) (w : World) : Bl K w w := ⟨Below.refl _ _, fun _ => Nat.le_refl _⟩
theorem Bl.trans {K : Prop} {a b c : World} (h : Bl K a b) (k : Bl K b c) : Bl K a c := ⟨h.b.trans (k.b.mono h.b.size), fun hk => Nat.le_trans (h.d hk) (k.d hk)⟩
theorem Bl.alloc (K : Prop) (w : World) (o : Obj) : Bl K w (w.alloc o) := ⟨(Below.refl _ _).alloc (Nat.le_refl _) o, fun _ => Nat.le_refl _⟩
structure Chg (K : Prop) (F : Nat → Prop) (w w' : World) : Prop where
  os : w'.os = w.os
  tape : w'.tape = w.tape
  output : w'.output = w.output
  size : w.heap.size ≤ w'.heap.size
  block : ∀ k, k < w.heap.size → ¬ F k → w'.heap[k]? = w.heap[k]?
  drawn : K → w.drawn ≤ w'.drawn
theorem Chg.refl (K : Prop) (F : Nat → Prop) (w : World) : Chg K F w w := ⟨rfl, rfl, rfl, Nat.le_refl _, fun _ _ _ => rfl, fun _ => Nat.le_refl _⟩
theorem Chg.below {K : Prop} {F : Nat → Prop} {a b c : World} (h : Chg K F a b) (k : Bl K b c) : Chg K F a c :=
  ⟨k.b.os.trans h.os, k.b.tape.trans h.tape, k.b.output.trans h.output, Nat.le_trans h.size k.b.size, fun i hi hf => (k.b.block i (Nat.lt_of_lt_of_le hi h.size)).trans (h.block i hi hf), fun hk => Nat.le_trans (h.drawn hk) (k.d hk)⟩
theorem Chg.none {K : Prop} {w w' : World} (h : Chg K (fun _ => False) w w') : Bl K w w' := ⟨⟨h.os, h.tape, h.output, h.size, fun k hk => h.block k hk (fun h => h)⟩, h.drawn⟩

/-- Of memory: what the call began with still stands, and its own blocks hold what they should. -/
structure Env (X : Nat → Prop) (w0 : Orig) (h : List HObj) (w : World) : Prop where
  below : Chg w0.K w0.F w0.w w
  objs : ∀ o ∈ h, o.ok (owned X h) w
  new : ∀ o ∈ h, ∀ b, o.blk = some b → w0.w.heap.size ≤ b ∨ w0.F b
  lt : ∀ o ∈ h, ∀ b, o.blk = some b → b < w.heap.size
  ext : ∀ b, X b → b < w0.w.heap.size ∧ ¬ w0.F b
  apart : ∀ (i j : Nat) (o p : HObj) b, h[i]? = some o → h[j]? = some p → o.blk = some b → p.blk = some b → i = j

structure AS where
  t : Nat → AV
  h : List HObj

def upd (f : Nat → AV) (d : Nat) (v : AV) : Nat → AV := fun t => bif Nat.beq t d then v else f t
theorem upd_same (f : Nat → AV) (d : Nat) (v : AV) : upd f d v d = v := by simp [upd]
theorem upd_ne (f : Nat → AV) {d t : Nat} (v : AV) (h : t ≠ d) : upd f d v t = f t := by
  have : Nat.beq t d = false := by
    cases hh : Nat.beq t d with
    | false => rfl
    | true => exact absurd (Nat.eq_of_beq_eq_true hh) h
  unfold upd; rw [this]; rfl

/-- A slot's new value; slots from N on there are none. -/
def putT (N : Nat) (f : Nat → AV) (d : Option Nat) (v : AV) : Nat → AV :=
  match d with
  | none => f
  | some d => bif Nat.blt d N then upd f d v else f

def AS.eval (s : AS) : Operand → AV
  | .tmp t => s.t t
  | .const v => .x v
  | .global g => .x (.pointer (some ⟨g, 0, none⟩))
  | .func f => .x (.func (.func f) #[] #[])
def evalT (f : Nat → AV) : Operand → AV
  | .tmp t => f t
  | .const v => .x v
  | .global g => .x (.pointer (some ⟨g, 0, none⟩))
  | .func f => .x (.func (.func f) #[] #[])

structure Slots (N : Nat) (O : Nat → Prop) (w : World) (f : Nat → AV) (a : Act) : Prop where
  defers : a.defers = []
  size : a.tmps.size = N
  slot : ∀ t, Rep O w (f t) (a.tmps.getD t undef)

structure St (N : Nat) (X : Nat → Prop) (w0 : Orig) (s : AS) (a : Act) (w : World) : Prop where
  env : Env X w0 s.h w
  slots : Slots N (owned X s.h) w s.t a

theorem Slots.eval {N : Nat} {O : Nat → Prop} {w : World} {f : Nat → AV} {a : Act} (h : Slots N O w f a) (x : Operand) : Rep O w (evalT f x) (a.eval x) := by
  cases x with
  | tmp t => exact h.slot t
  | const v => simp only [evalT, Rep, Act.eval]
  | global g => simp only [evalT, Rep, Act.eval]
  | func g => simp only [evalT, Rep, Act.eval]

theorem Slots.put {N : Nat} {O : Nat → Prop} {w : World} {f : Nat → AV} {a : Act} (h : Slots N O w f a) (d : Option Nat) {v : Value} {av : AV} (hv : Rep O w av v) : Slots N O w (putT N f d av) (a.put d v) := by
  cases d with
  | none => exact h
  | some d =>
    refine ⟨h.defers, by simpa [Act.put] using h.size, fun t => ?_⟩
    simp only [putT]
    by_cases hd : d < N
    · rw [show Nat.blt d N = true by simpa [Nat.blt_eq] using hd]
      simp only [cond_true]
      by_cases ht : t = d
      · subst ht
        rw [upd_same]
        have : t < a.tmps.size := by rw [h.size]; exact hd
        simpa [Act.put, Array.getElem?_setIfInBounds, this] using hv
      · rw [upd_ne _ _ ht]
        have := h.slot t
        simpa [Act.put, Array.getElem?_setIfInBounds_ne (Ne.symm ht)] using this
    · have hb : Nat.blt d N = false := by
        cases hh : Nat.blt d N with
        | false => rfl
        | true => exact absurd (by simpa [Nat.blt_eq] using hh) hd
      rw [hb]
      simp only [cond_false]
      have hge : a.tmps.size ≤ d := by rw [h.size]; omega
      have e : (a.put (some d) v).tmps = a.tmps := by simp [Act.put, Array.setIfInBounds, Nat.not_lt.2 hge]
      rw [e]
      exact h.slot t

theorem Slots.mono {N : Nat} {O O' : Nat → Prop} {w w' : World} {f : Nat → AV} {a : Act} (h : Slots N O w f a) (hk : Kept O w w') (hO : ∀ b, b < w.heap.size → O' b → O b) : Slots N O' w' f a :=
  ⟨h.defers, h.size, fun t => Rep.mono hk hO _ _ (h.slot t)⟩

theorem HObj.ok_mono {O O' : Nat → Prop} {w w' : World} {o : HObj} (h : o.ok O w) (hk : Kept O w w') (hO : ∀ b, b < w.heap.size → O' b → O b) (hb : ∀ b, o.blk = some b → w'.heap[b]? = w.heap[b]?) : o.ok O' w' := by
  cases o with
  | cells g T cs =>
    obtain ⟨us, h1, h2, h3⟩ := h
    exact ⟨us, (hb g rfl).trans h1, h2, RepC.mono hk hO _ _ h3⟩
  | row v e k n cs =>
    obtain ⟨vs, h1, h2, h3⟩ := h
    refine ⟨vs, ⟨h1.1, ?_⟩, h2, RepC.mono hk hO _ _ h3⟩
    rcases h1.2 with h4 | ⟨g, cap, cur, rfl, h5, h6, h7⟩
    · exact .inl h4
    · exact .inr ⟨g, cap, cur, rfl, h5, (hb g rfl).trans h6, h7⟩
  | dead => exact h

/-- A step that changes nothing that was there. -/
theorem Env.below_ {X : Nat → Prop} {w0 : Orig} {w w' : World} {h : List HObj} (he : Env X w0 h w) (hb : Bl w0.K w w') : Env X w0 h w' where
  below := he.below.below hb
  objs o ho := HObj.ok_mono (he.objs o ho) (Kept.of_below hb.b) (fun _ _ h => h) fun b hbb => hb.b.block b (he.lt o ho b hbb)
  new := he.new
  lt o ho b hbb := Nat.lt_of_lt_of_le (he.lt o ho b hbb) hb.b.size
  ext := he.ext
  apart := he.apart

theorem St.below_ {N : Nat} {X : Nat → Prop} {w0 : Orig} {w w' : World} {s : AS} {a : Act} (h : St N X w0 s a w) (hb : Bl w0.K w w') : St N X w0 s a w' :=
  ⟨h.env.below_ hb, h.slots.mono (Kept.of_below hb.b) fun _ _ h => h⟩
theorem owned_lt {X : Nat → Prop} {w0 : Orig} {w : World} {h : List HObj} (he : Env X w0 h w) {b : Nat} (hb : owned X h b) : b < w.heap.size := by
  rcases hb with hb | ⟨o, ho, hbb⟩
  · exact Nat.lt_of_lt_of_le (he.ext b hb).1 he.below.size
  · exact he.lt o ho b hbb
end Go.Proofs.Ytpehmadeklaebaa
