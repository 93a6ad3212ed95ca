/-
  E1
-/
import Derived.Test.YtpehmadeklaebaaZC12
import Derived.Test.YtpehmadeklaebaaZC5
namespace Go.Proofs.Ytpehmadeklaebaa
open Go Go.RowKit
set_option linter.unusedVariables false
set_option linter.unusedSimpArgs false

/-- What a place holds. -/
inductive Ty where
  | int (k : IntKind)
  | bool
  | str
  | flt
  | pair (a b : Ty)
  | list (a : Ty)
  | arr (n : Nat) (a : Ty)
  | one (a : Ty)
  | unit
@[reducible] def Ty.T : Ty → Type
  | .int _ => Int
  | .bool => Bool
  | .str => ByteArray
  | .flt => Nat
  | .pair a b => a.T × b.T
  | .list a => List a.T
  | .arr _ a => List a.T
  | .one a => a.T
  | .unit => Unit
def Ty.size : Ty → Nat
  | .pair a b => a.size + b.size
  | .arr n a => n * a.size
  | .one a => a.size
  | .unit => 0
  | _ => 1
def Ty.agg : Ty → Bool
  | .pair _ _ => true
  | .arr _ _ => true
  | .one _ => true
  | .unit => true
  | _ => false
def Ty.dflt : (a : Ty) → a.T
  | .int _ => (0 : Int)
  | .bool => false
  | .str => ByteArray.empty
  | .flt => (0 : Nat)
  | .pair a b => (a.dflt, b.dflt)
  | .list _ => []
  | .arr n a => List.replicate n a.dflt
  | .one a => a.dflt
  | .unit => ()
def Ty.enc : (a : Ty) → a.T → List AV
  | .int k, x => [.x (.int k x)]
  | .bool, x => [.x (.bool x)]
  | .str, x => [.x (.string x)]
  | .flt, x => [.x (.float .f64 x)]
  | .pair a b, x => a.enc x.1 ++ b.enc x.2
  | .list a, l => [.sl a.size l.length (l.flatMap a.enc)]
  | .arr n a, l => (List.range n).flatMap fun i => a.enc (l.getD i a.dflt)
  | .one a, x => a.enc x
  | .unit, _ => []
def Ty.den : (a : Ty) → a.T → AV
  | .int k, x => .x (.int k x)
  | .bool, x => .x (.bool x)
  | .str, x => .x (.string x)
  | .flt, x => .x (.float .f64 x)
  | .list a, l => .sl a.size l.length (l.flatMap a.enc)
  | a, x => .agg (a.enc x)

theorem Ty.enc_len : ∀ (a : Ty) (x : a.T), (a.enc x).length = a.size
  | .int _, _ => rfl
  | .bool, _ => rfl
  | .str, _ => rfl
  | .flt, _ => rfl
  | .list _, _ => rfl
  | .unit, _ => rfl
  | .one a, x => Ty.enc_len a x
  | .pair a b, x => by simp only [Ty.enc, List.length_append, Ty.enc_len a, Ty.enc_len b, Ty.size]
  | .arr n a, l => by
    have h := fun i : Nat => Ty.enc_len a (l.getD i a.dflt)
    simp only [Ty.enc, Ty.size]
    rw [flat_len_ (enc := fun i => a.enc (l.getD i a.dflt)) h, List.length_range]
theorem Ty.enc_ones : ∀ (a : Ty) (x : a.T), AV.ones (a.enc x) = true
  | .int _, _ => rfl
  | .bool, _ => rfl
  | .str, _ => rfl
  | .flt, _ => rfl
  | .list _, _ => rfl
  | .unit, _ => rfl
  | .one a, x => Ty.enc_ones a x
  | .pair a b, x => by simp only [Ty.enc]; exact ones_app (Ty.enc_ones a _) (Ty.enc_ones b _)
  | .arr n a, l => by simp only [Ty.enc]; exact ones_flat (enc := fun i => a.enc (l.getD i a.dflt)) (fun i => Ty.enc_ones a _) _
theorem Ty.den_cells : ∀ (a : Ty) (x : a.T), (a.den x).cells = a.enc x
  | .int _, _ => rfl
  | .bool, _ => rfl
  | .str, _ => rfl
  | .flt, _ => rfl
  | .list _, _ => rfl
  | .unit, _ => rfl
  | .one a, x => rfl
  | .pair a b, x => rfl
  | .arr n a, l => rfl
theorem Ty.den_flat : ∀ (a : Ty) (x : a.T), (a.den x).flat = true
  | .int _, _ => rfl
  | .bool, _ => rfl
  | .str, _ => rfl
  | .flt, _ => rfl
  | .list _, _ => rfl
  | .unit, _ => rfl
  | .one a, x => rfl
  | .pair a b, x => rfl
  | .arr n a, l => rfl
theorem Ty.den_agg : ∀ (a : Ty) (x : a.T), a.agg = true → a.den x = .agg (a.enc x)
  | .unit, _, _ => rfl
  | .one a, x, _ => rfl
  | .pair a b, x, _ => rfl
  | .arr n a, l, _ => rfl
theorem Ty.enc_one : ∀ (a : Ty) (x : a.T), a.agg = false → a.enc x = [a.den x]
  | .int _, _, _ => rfl
  | .bool, _, _ => rfl
  | .str, _, _ => rfl
  | .flt, _, _ => rfl
  | .list _, _, _ => rfl
/-- Are two the same? -/
def Ty.eqK : (a b : Ty) → Option (PLift (a = b))
  | .int j, .int k => if h : j = k then some ⟨by rw [h]⟩ else none
  | .bool, .bool => some ⟨rfl⟩
  | .str, .str => some ⟨rfl⟩
  | .flt, .flt => some ⟨rfl⟩
  | .unit, .unit => some ⟨rfl⟩
  | .pair a b, .pair c d => match Ty.eqK a c, Ty.eqK b d with
    | some ⟨h⟩, some ⟨g⟩ => some ⟨by rw [h, g]⟩
    | _, _ => none
  | .list a, .list b => match Ty.eqK a b with
    | some ⟨h⟩ => some ⟨by rw [h]⟩
    | none => none
  | .one a, .one b => match Ty.eqK a b with
    | some ⟨h⟩ => some ⟨by rw [h]⟩
    | none => none
  | .arr n a, .arr m b => match Ty.eqK a b with
    | some ⟨h⟩ => if g : n = m then some ⟨by rw [h, g]⟩ else none
    | none => none
  | _, _ => none

/-- Steps of a place within a block: so many cells on; the z-th of things of k cells. -/
inductive PS where
  | o (n : Nat)
  | x (k z : Nat)
def poff : List PS → Nat
  | [] => 0
  | .o n :: p => n + poff p
  | .x k z :: p => z * k + poff p
theorem poff_app : ∀ (p q : List PS), poff (p ++ q) = poff p + poff q
  | [], q => by simp [poff]
  | .o n :: p, q => by simp [poff, poff_app p q, Nat.add_assoc]
  | .x k z :: p, q => by simp [poff, poff_app p q, Nat.add_assoc]

/-- What a slot holds: something typed; another exact value; the nil slice; a pointer to an own block; an own row, and a pointer into one; a pointer to something that does not change; a struct of parts; several results; a closure; a truth value that is known. -/
inductive EV where
  | td (a : Ty) (x : a.T)
  | val (u : Value)
  | nil
  | bl (b : Bool)
  | own (i : Nat) (p : List PS)
  | row (i : Nat)
  | rp (i k z : Nat) (p : List PS)
  | rs (i k lo n : Nat)
  | lp (a : Ty) (x : a.T) (p : List PS)
  | st (fs : List EV)
  | tup (fs : List EV)
  | fn (f : FuncId) (cs : List EV)
  | av (a : AV)
  | any

/-- The own blocks' names, and the own rows' values. -/
structure Nm where
  g : Nat → Nat
  r : Nat → Value
def rowPtr (v : Value) (n : Nat) : AV :=
  match v with
  | .slice (some ad) _ _ => .x (.pointer (some ⟨ad.block, n, none⟩))
  | _ => .any
def rowSl (v : Value) (k lo n : Nat) : AV :=
  match v with
  | .slice (some ad) _ c => .x (.slice (some ⟨ad.block, lo * k, none⟩) n (c - lo))
  | _ => .any
mutual
def EV.den (m : Nm) : EV → AV
  | .st fs => .agg (EV.flatL m fs)
  | .tup fs => .tup (EV.denL m fs)
  | .fn f cs => .fn f (EV.denL m cs)
  | .td a x => a.den x
  | .val u => .x u
  | .nil => .x (.slice none 0 0)
  | .bl b => .x (.bool b)
  | .own i p => .x (.pointer (some ⟨m.g i, poff p, none⟩))
  | .row i => .x (m.r i)
  | .rp i k z p => rowPtr (m.r i) (z * k + poff p)
  | .rs i k lo n => rowSl (m.r i) k lo n
  | .lp a x p => .ip ((a.enc x).drop (poff p))
  | .av a => a
  | .any => .any
def EV.denL (m : Nm) : List EV → List AV
  | [] => []
  | v :: l => v.den m :: EV.denL m l
def EV.flat (m : Nm) : EV → List AV
  | .td a x => a.enc x
  | .st fs => EV.flatL m fs
  | .tup fs => [.tup (EV.denL m fs)]
  | .fn f cs => [.fn f (EV.denL m cs)]
  | .val u => [.x u]
  | .nil => [.x (.slice none 0 0)]
  | .bl b => [.x (.bool b)]
  | .own i p => [.x (.pointer (some ⟨m.g i, poff p, none⟩))]
  | .row i => [.x (m.r i)]
  | .rp i k z p => [rowPtr (m.r i) (z * k + poff p)]
  | .rs i k lo n => [rowSl (m.r i) k lo n]
  | .lp a x p => [.ip ((a.enc x).drop (poff p))]
  | .av a => [a]
  | .any => [.any]
def EV.flatL (m : Nm) : List EV → List AV
  | [] => []
  | v :: l => v.flat m ++ EV.flatL m l
end

/-- An own block: a variable; a row; one that is no more. -/
inductive EO where
  | cell (T : TypeId) (c : EV)
  | row (e : TypeId) (a : Ty) (l : List a.T)
  | dead
  | raw (o : HObj)
def EO.den (m : Nm) (i : Nat) : EO → HObj
  | .cell T c => .cells (m.g i) T (c.flat m)
  | .row e a l => .row (m.r i) e a.size l.length (l.flatMap a.enc)
  | .dead => .dead
  | .raw o => o
def EO.denL (m : Nm) : Nat → List EO → List HObj
  | _, [] => []
  | i, o :: l => o.den m i :: EO.denL m (i + 1) l

structure ES where
  t : List (Nat × EV)
  h : List EO
def slotsOf (m : Nm) : List (Nat × EV) → Nat → AV
  | [] => fun _ => .any
  | (d, v) :: l => upd (slotsOf m l) d (v.den m)
def ES.den (m : Nm) (s : ES) : AS := ⟨slotsOf m s.t, EO.denL m 0 s.h⟩

theorem EO.denL_len (m : Nm) : ∀ (i : Nat) (l : List EO), (EO.denL m i l).length = l.length
  | _, [] => rfl
  | i, o :: l => by simp [EO.denL, EO.denL_len m (i + 1) l]
theorem EO.denL_get (m : Nm) : ∀ (i : Nat) (l : List EO) (j : Nat), (EO.denL m i l)[j]? = (l[j]?).map (EO.den m (i + j))
  | _, [], j => by simp [EO.denL]
  | i, o :: l, 0 => by simp [EO.denL]
  | i, o :: l, j + 1 => by
    simp only [EO.denL, List.getElem?_cons_succ, EO.denL_get m (i + 1) l j]
    rw [show i + 1 + j = i + (j + 1) by omega]
theorem EO.denL_set (m : Nm) (i : Nat) (l : List EO) (j : Nat) (o : EO) : EO.denL m i (l.set j o) = (EO.denL m i l).set j (o.den m (i + j)) := by
  apply List.ext_getElem?
  intro k
  rw [EO.denL_get, List.getElem?_set, List.getElem?_set, EO.denL_len, EO.denL_get]
  split
  · rename_i e; subst e
    split <;> simp_all
  · rfl
theorem EO.denL_app (m : Nm) : ∀ (i : Nat) (l k : List EO), EO.denL m i (l ++ k) = EO.denL m i l ++ EO.denL m (i + l.length) k
  | i, [], k => by simp [EO.denL]
  | i, o :: l, k => by simp only [List.cons_append, EO.denL, EO.denL_app m (i + 1) l k, List.length_cons]; rw [show i + 1 + l.length = i + (l.length + 1) by omega]
theorem EV.denL_map (m : Nm) : ∀ l : List EV, EV.denL m l = l.map (EV.den m)
  | [] => rfl
  | v :: l => by simp [EV.denL, EV.denL_map m l]
theorem EV.flat_cells (m : Nm) : ∀ v : EV, (∀ a, v ≠ .av a) → (v.den m).cells = v.flat m
  | .td a x, _ => by simp only [EV.den, EV.flat, Ty.den_cells]
  | .val u, _ => rfl
  | .nil, _ => rfl
  | .bl _, _ => rfl
  | .own _ _, _ => rfl
  | .row _, _ => rfl
  | .rp i k z p, _ => by
    simp only [EV.den, EV.flat, rowPtr]
    split <;> rfl
  | .rs i k lo n, _ => by
    simp only [EV.den, EV.flat, rowSl]
    split <;> rfl
  | .lp _ _ _, _ => rfl
  | .st _, _ => rfl
  | .tup _, _ => rfl
  | .fn _ _, _ => rfl
  | .av a, h => absurd rfl (h a)
  | .any, _ => rfl

/-- What is on its way: code, a block's end, a loop's head. -/
inductive Item where
  | code (c : Code)
  | block (id : Nat)
  | mark (d : Nat)

/-- What may come of a state. -/
inductive Tree : Type 1 where
  | ret (s : ES)
  | back (d : Nat) (s : ES)
  | ite (b : Bool) (t e : Tree)
  | need (p : Prop) (t : Tree)
  | giv (p : Prop) (t : Tree)
  | all (α : Type) (f : α → Tree)
  | loop (c : Code) (k : List Item) (s : ES)
  | done
  | bad (n : Nat)

/-- A call's surroundings: the program, the frame, the blocks that were handed to it and their names, and which rows may grow. -/
structure EC extends Cx where
  P : Program
  n0 : Nat
  ks : List Nat
  m0 : Nm
structure Agr (n0 : Nat) (ks : List Nat) (m0 m : Nm) : Prop where
  g : ∀ i, i < n0 → m.g i = m0.g i
  r : ∀ i, i < n0 → i ∉ ks → m.r i = m0.r i
theorem Agr.refl (n0 : Nat) (ks : List Nat) (m : Nm) : Agr n0 ks m m := ⟨fun _ _ => rfl, fun _ _ _ => rfl⟩

def EQ (E : EC) (Q : Exit → ES → Prop) : Exit → AS → Prop := fun e s' => ∃ m es, s' = ES.den m es ∧ Agr E.n0 E.ks E.m0 m ∧ Q e es
structure EW (E : EC) (c : Code) (Q : Exit → ES → Prop) (s : ES) : Prop where
  run : ∀ m, Agr E.n0 E.ks E.m0 m → AW E.P E.toCx c (EQ E Q) (s.den m)
def onE (n r : ES → Prop) (x : Nat → ES → Prop) : Exit → ES → Prop
  | .normal, s => n s
  | .ret, s => r s
  | .exit i, s => x i s
  | _, _ => False

mutual
def IW (E : EC) (B : Nat → ES → Prop) (R : ES → Prop) : List Item → ES → Prop
  | [], s => R s
  | .code c :: k, s => EW E c (onE (IW E B R k) R (exitTo E B R k)) s
  | .block _ :: k, s => IW E B R k s
  | .mark d :: _, s => B d s
def exitTo (E : EC) (B : Nat → ES → Prop) (R : ES → Prop) : List Item → Nat → ES → Prop
  | [], _, _ => False
  | .block j :: k, i, s => (bif Nat.beq i j then IW E B R k s else exitTo E B R k i s)
  | .code _ :: k, i, s => exitTo E B R k i s
  | .mark _ :: k, i, s => exitTo E B R k i s
end

def Tree.ok (E : EC) (B : Nat → ES → Prop) (R : ES → Prop) : Tree → Prop
  | .ret s => R s
  | .back d s => B d s
  | .ite b t e => (b = true → t.ok E B R) ∧ (b = false → e.ok E B R)
  | .need p t => p ∧ t.ok E B R
  | .giv p t => p → t.ok E B R
  | .all _ f => ∀ a, (f a).ok E B R
  | .loop c k s => IW E B R (.code (.loop c) :: k) s
  | .done => True
  | .bad _ => False

theorem EW.mono {E : EC} {c : Code} {Q Q' : Exit → ES → Prop} {s : ES} (h : EW E c Q s) (hq : ∀ e s, Q e s → Q' e s) : EW E c Q' s :=
  ⟨fun m hm => aw_mono (h.run m hm) fun e s' ⟨m', es, h1, h2, h3⟩ => ⟨m', es, h1, h2, hq e es h3⟩⟩
theorem ew_skip {E : EC} {Q : Exit → ES → Prop} {s : ES} (h : Q .normal s) : EW E .skip Q s := ⟨fun m hm => aw_skip ⟨m, s, rfl, hm, h⟩⟩
theorem ew_label {E : EC} {l : Nat} {Q : Exit → ES → Prop} {s : ES} (h : Q .normal s) : EW E (.label l) Q s := ⟨fun m hm => aw_label ⟨m, s, rfl, hm, h⟩⟩
theorem ew_exit {E : EC} {i : Nat} {Q : Exit → ES → Prop} {s : ES} (h : Q (.exit i) s) : EW E (.exit i) Q s := ⟨fun m hm => aw_exit ⟨m, s, rfl, hm, h⟩⟩
theorem ew_ret {E : EC} {Q : Exit → ES → Prop} {s : ES} (h : Q .ret s) : EW E .ret Q s := ⟨fun m hm => aw_ret ⟨m, s, rfl, hm, h⟩⟩
theorem ew_seq {E : EC} {x y : Code} {n r : ES → Prop} {xx : Nat → ES → Prop} {s : ES} (h : EW E x (onE (EW E y (onE n r xx)) r xx) s) : EW E (.seq x y) (onE n r xx) s := ⟨fun m hm => aw_seq (aw_mono (h.run m hm) fun e s' ⟨m', es, h1, h2, h3⟩ => by
  subst h1
  cases e with
  | normal => exact h3.run m' h2
  | _ => exact ⟨m', es, rfl, h2, h3⟩)⟩
theorem ew_block {E : EC} {id : Nat} {c : Code} {n r : ES → Prop} {xx : Nat → ES → Prop} {s : ES} (h : EW E c (onE n r (fun i s => bif Nat.beq i id then n s else xx i s)) s) : EW E (.block id c) (onE n r xx) s := ⟨fun m hm => aw_block (aw_mono (h.run m hm) fun e s' ⟨m', es, h1, h2, h3⟩ => by
  cases e with
  | exit i =>
    simp only [inB]
    simp only [onE] at h3
    cases hb : Nat.beq i id with
    | true => rw [hb] at h3; exact ⟨m', es, h1, h2, h3⟩
    | false => rw [hb] at h3; exact ⟨m', es, h1, h2, h3⟩
  | _ => exact ⟨m', es, h1, h2, h3⟩)⟩
end Go.Proofs.Ytpehmadeklaebaa
