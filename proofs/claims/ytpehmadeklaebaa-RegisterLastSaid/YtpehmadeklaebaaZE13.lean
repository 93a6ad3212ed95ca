/-
  E13
-/
import Derived.Test.YtpehmadeklaebaaZE12
namespace Go.Proofs.Ytpehmadeklaebaa
open Go Go.RowKit
set_option linter.unusedVariables false
set_option linter.unusedSimpArgs false

/-- What a call of a function that writes gives: what is asked, what holds, the value, and the blocks; rows in ks may have grown. -/
inductive SR : Type 1 where
  | r (v : EV) (h : List EO)
  | need (p : Prop) (k : SR)
  | giv (p : Prop) (k : SR)
  | all (α : Type) (f : α → SR)
  | none
abbrev MSumm := List EV → List EO → SR
def SR.den (m : Nm) (n : Nat) (ks : List Nat) : SR → AV → List HObj → Prop
  | .r v h, av, hh => ∃ m', Agr n ks m m' ∧ av = v.den m' ∧ hh = EO.denL m' 0 h
  | .need p k, av, hh => k.den m n ks av hh
  | .giv p k, av, hh => p ∧ k.den m n ks av hh
  | .all _ f, av, hh => ∃ a, (f a).den m n ks av hh
  | .none, _, _ => True
def SR.pre : SR → Prop
  | .r _ _ => True
  | .need p k => p ∧ k.pre
  | .giv p k => p → k.pre
  | .all _ f => ∀ a, (f a).pre
  | .none => False
structure MS where
  S : MSumm
  ks : List EV → List Nat
/-- All that the evaluator knows. -/
structure EB extends EX where
  M : List (FuncId × MS)
structure EBok (Y : EB) (P : Program) (K : Prop) : Prop where
  X : EXok Y.toEX P K
  M : ∀ g (S : MS), (g, S) ∈ Y.M → ∀ args h, (S.S args h).pre → ∀ m : Nm, MFn P K g (EV.denL m args) (EO.denL m 0 h) ((S.S args h).den m h.length (S.ks args))
  mix : P.follows .mixedOrders = true
structure EY extends EB where
  N : Nat
  n0 : Nat
  ks : List Nat
  rs : List ResultVar
  ip : Bool
structure EYok (Y : EY) (E : EC) : Prop where
  b : EBok Y.toEB E.P E.w0.K
  N : Y.N = E.N
  n0 : Y.n0 = E.n0
  ks : Y.ks = E.ks
theorem EYok.X {Y : EY} {E : EC} (h : EYok Y E) : EXok Y.toEX E.P E.w0.K := h.b.X
theorem EYok.M {Y : EY} {E : EC} (h : EYok Y E) : ∀ g (S : MS), (g, S) ∈ Y.M → ∀ args h, (S.S args h).pre → ∀ m : Nm, MFn E.P E.w0.K g (EV.denL m args) (EO.denL m 0 h) ((S.S args h).den m h.length (S.ks args)) := h.b.M
theorem EYok.mix {Y : EY} {E : EC} (h : EYok Y E) : E.P.follows .mixedOrders = true := h.b.mix

def forceN (n : Nat) (K : Nat → Tree) : Tree :=
  match n with
  | 0 => K 0 | 1 => K 1 | 2 => K 2 | 3 => K 3 | 4 => K 4 | 5 => K 5 | 6 => K 6 | 7 => K 7 | 8 => K 8 | 9 => K 9 | 10 => K 10 | 11 => K 11 | 12 => K 12 | 13 => K 13 | 14 => K 14 | 15 => K 15 | 16 => K 16 | 17 => K 17 | 18 => K 18 | 19 => K 19
  | n => K n
theorem forceN_eq (n : Nat) (K : Nat → Tree) : forceN n K = K n := by
  unfold forceN; split <;> rfl
def lenK {α : Type} : List α → Nat → (Nat → Tree) → Tree
  | [], n, K => forceN n K
  | _ :: l, n, K => lenK l (n + 1) K
theorem lenK_eq {α : Type} : ∀ (l : List α) (n : Nat) (K : Nat → Tree), lenK l n K = K (n + l.length)
  | [], n, K => forceN_eq n K
  | _ :: l, n, K => by rw [lenK, lenK_eq l, List.length_cons]; congr 1; omega
def snocK {α : Type} : List α → α → (List α → Tree) → Tree
  | [], y, K => K [y]
  | x :: l, y, K => snocK l y fun l => K (x :: l)
theorem snocK_eq {α : Type} : ∀ (l : List α) (y : α) (K : List α → Tree), snocK l y K = K (l ++ [y])
  | [], _, _ => rfl
  | x :: l, y, K => by simp only [snocK, snocK_eq l, List.cons_append]
def setS : List (Nat × EV) → Nat → EV → (List (Nat × EV) → Tree) → Tree
  | [], d, v, K => K [(d, v)]
  | (e, w) :: l, d, v, K => bif Nat.beq d e then K ((d, v) :: l) else setS l d v fun l => K ((e, w) :: l)
theorem setS_ok {m : Nm} : ∀ (l : List (Nat × EV)) (d : Nat) (v : EV) (K : List (Nat × EV) → Tree), ∃ l', setS l d v K = K l' ∧ slotsOf m l' = upd (slotsOf m l) d (v.den m)
  | [], d, v, K => ⟨_, rfl, rfl⟩
  | (e, w) :: l, d, v, K => by
    simp only [setS]
    cases hc : Nat.beq d e with
    | true =>
      obtain rfl := beqN hc
      refine ⟨_, rfl, ?_⟩
      funext t
      simp only [slotsOf, upd]
      cases Nat.beq t d <;> rfl
    | false =>
      obtain ⟨l', h1, h2⟩ := setS_ok (m := m) l d v fun l => K ((e, w) :: l)
      refine ⟨_, h1, ?_⟩
      funext t
      have h3 := congrFun h2 t
      simp only [slotsOf, upd] at h3 ⊢
      rw [h3]
      cases ht : Nat.beq t e with
      | true =>
        obtain rfl := beqN ht
        have : Nat.beq t d = false := by
          cases hh : Nat.beq t d with
          | false => rfl
          | true => have := beqN hh; subst this; rw [ht] at hc; cases hc
        rw [this]; rfl
      | false => rfl
def putD (N : Nat) (dst : Option Nat) (v : EV) (s : ES) (K : ES → Tree) : Tree :=
  match dst with
  | none => K s
  | some d => match s with
    | ⟨t, h⟩ => bif Nat.blt d N then setS t d v fun t => K ⟨t, h⟩ else .bad 120

/-- Rows at rest. -/
def frzRow (s : ES) (i : Nat) (K : ES → Tree) : Tree :=
  nthK s.h i fun ob => match ob with
    | .row _ b l => mapSlotsK i false (.td (.list b) l) s.t fun t => mapObjsK i false (.td (.list b) l) s.h fun h => setNK h i .dead fun h => K ⟨t, h⟩
    | _ => K s
def frzL : List EV → ES → (ES → Tree) → Tree
  | [], s, K => K s
  | v :: l, s, K => match v with
    | .row i => frzRow s i fun s => frzL l s K
    | _ => frzL l s K
def hasRow : List EV → Bool
  | [] => false
  | .row _ :: _ => true
  | _ :: l => hasRow l
def inM : List (FuncId × MS) → FuncId → Bool
  | [], _ => false
  | (u, _) :: l, g => Nat.beq u g || inM l g
def frz (Y : EY) (s : ES) (op : Op) (K : ES → Tree) : Tree :=
  match op with
  | .slice _ x _ _ _ => bif Y.ip then K s else opndK s x fun v => frzL [v] s K
  | .call c => match c.callee with
    | .builtin .append => match c.args.toList with
      | [_, y] => opndK s y fun v => frzL [v] s K
      | _ => K s
    | .value (.func g) => bif inM Y.M g then K s else opndsK s c.args.toList fun vs => bif hasRow vs then fnK Y.F g fun S => viewsK s.h vs fun us => decA S.ts us fun x => S.ap x fun _ r => bif r.scal then K s else frzL vs s K
      else K s
    | _ => K s
  | _ => K s

def mfK : List (FuncId × MS) → FuncId → (MS → Tree) → Tree
  | [], g, _ => .bad (300000 + g)
  | (u, S) :: l, g, K => bif Nat.beq u g then K S else mfK l g K
def srK (r : SR) (K : EV → List EO → Tree) : Tree :=
  match r with
  | .r v h => K v h
  | .need p k => .need p (srK k K)
  | .giv p k => .giv p (srK k K)
  | .all α f => .all α fun a => srK (f a) K
  | .none => .bad 121
def objsK : List EO → (List EO → Tree) → Tree
  | [], K => K []
  | o :: l, K => objsK l fun l => K (o :: l)
theorem objsK_eq : ∀ (l : List EO) (K : List EO → Tree), objsK l K = K l
  | [], _ => rfl
  | o :: l, K => by simp only [objsK, objsK_eq l]
def killL : List Nat → List (Nat × EV) → (List (Nat × EV) → Tree) → Tree
  | [], t, K => K t
  | i :: l, t, K => mapSlotsK i false .any t fun t => killL l t K

def isEff (Y : EY) (op : Op) : Bool :=
  match op with
  | .alloc _ => true
  | .box _ _ => true
  | .store _ _ _ => true
  | .buildSlice _ 0 _ => true
  | .binOp .eql _ _ (.const (.slice none 0 0)) _ => true
  | .call c => match c.callee with
    | .builtin .append => true
    | .builtin .clear => true
    | .value (.func g) => inM Y.M g
    | _ => false
  | _ => false
def pushE (Y : EY) (s : ES) (dst : Option Nat) (T : TypeId) (c : EV) (K : ES → Tree) : Tree :=
  match s with
  | ⟨t, h⟩ => lenK h 0 fun n => bif slotsBelow n t && objsBelow n h && c.bw n && Nat.ble Y.n0 n then snocK h (.cell T c) fun h => putD Y.N dst (.own n []) ⟨t, h⟩ K else .bad 122
def growE (Y : EY) (s : ES) (dst : Option Nat) (i : Nat) (e : TypeId) (b : Ty) (l l2 : List b.T) (bytes : Nat) (K : ES → Tree) : Tree :=
  bif (Nat.ble Y.n0 i || Y.ks.contains i) && Nat.ble 1 bytes && dst.isSome then
    .need ((l.length + l2.length) * bytes ≤ 140737488355328) (mapSlotsK i false .any s.t fun t => mapObjsK i false .any s.h fun h => setNK h i (.row e b (l ++ l2)) fun h => putD Y.N dst (.row i) ⟨t, h⟩ K)
  else .bad 123
def evE (Y : EY) (s : ES) (o : Oper) (K : ES → Tree) : Tree :=
  match o.op with
  | .alloc T => tiK Y.T T fun ti => zeroK ti fun c => pushE Y s o.dst T c K
  | .box T x => opndK s x fun v => bif v.okS then pushE Y s o.dst T v K else .bad 124
  | .store T x y => match o.dst with
    | none => opndK s x fun p => opndK s y fun v => tiK Y.T T fun ti => match p with
      | .own i q => nthK s.h i fun ob => match ob with
        | .cell T' c => bif Nat.beq v.size ti.sz then (match v with
          | .row j => nthK s.h j fun ob => match ob with
            | .row _ _ _ => putP c q (.row j) fun c => setNK s.h i (.cell T' c) fun h => (match s with | ⟨t, _⟩ => K ⟨t, h⟩)
            | _ => .bad 125
          | v => bif v.okS then putP c q v fun c => setNK s.h i (.cell T' c) fun h => (match s with | ⟨t, _⟩ => K ⟨t, h⟩) else .bad 125) else .bad 125
        | _ => .bad 126
      | .rp i k z q => nthK s.h i fun ob => match ob with
        | .row e a l => bif Nat.beq k a.size && Nat.beq v.size ti.sz && v.okS then .need (z < l.length) (setK a (l.getD z a.dflt) q v fun y => setNK s.h i (.row e a (l.set z y)) fun h => (match s with | ⟨t, _⟩ => K ⟨t, h⟩)) else .bad 126
        | _ => .bad 126
      | _ => .bad 127
    | some _ => .bad 127
  | .buildSlice t 0 parts => match parts.toList with
    | [] => tiK Y.T t fun ti => match ti.k with
      | .sl e _ => tiK Y.T e fun ei => match ei.code with
        | some a => bif Nat.beq ei.sz 0 then .bad 127 else (match s, o.dst with
          | ⟨t, h⟩, some d => lenK h 0 fun n => bif slotsBelow n t && objsBelow n h && Nat.ble Y.n0 n then snocK h (.row e a []) fun h => putD Y.N (some d) (.row n) ⟨t, h⟩ K else .bad 127
          | _, none => .bad 127)
        | none => .bad 127
      | _ => .bad 127
    | _ => .bad 127
  | .binOp .eql t x (.const (.slice none 0 0)) _ => opndK s x fun v => tiK Y.T t fun ti => match ti.k, v, o.dst with
    | .sl _ _, .td (.list a) l, some d => .all Bool fun b => .giv (b = true → l = []) (bif Nat.beq a.size 0 then .bad 127 else putD Y.N (some d) (.td .bool b) s K)
    | _, _, _ => .bad 127
  | .call c => match c.callee with
    | .builtin .append => match c.args.toList, c.argTypes.toList with
      | [x, y], [t, t'] => bif Nat.beq t t' then opndK s x fun a => opndK s y fun b => tiK Y.T t fun ti => match ti.k, b with
        | .sl e bytes, .td (.list c) l2 => tiK Y.T e fun ei => match a with
          | .row i => nthK s.h i fun ob => match ob with
            | .row e' d l => bif Nat.beq e e' && Nat.beq ei.sz d.size then (match Ty.eqK (.list c) (.list d) with
              | some ⟨h⟩ => withT h l2 fun l2 => growE Y s o.dst i e' d l l2 bytes K
              | none => .bad 128) else .bad 128
            | _ => .bad 128
          | .nil => bif Nat.beq ei.sz c.size then lenK s.h 0 fun n => bif slotsBelow n s.t && objsBelow n s.h && Nat.ble Y.n0 n then snocK s.h (.row e c []) fun h => (match s with | ⟨t, _⟩ => growE Y ⟨t, h⟩ o.dst n e c [] l2 bytes K) else .bad 129 else .bad 129
          | _ => .bad 130
        | _, _ => .bad 131
        else .bad 131
      | _, _ => .bad 131
    | .builtin .clear => match c.args.toList, c.argTypes.toList, o.dst with
      | [x], [t], none => opndK s x fun v => tiK Y.T t fun ti => match ti.k, v with
        | .sl e _, .rs i k lo n => tiK Y.T e fun ei => nthK s.h i fun ob => match ob with
          | .row e' a l => bif Nat.beq k a.size && Nat.beq ei.sz a.size && Nat.beq e e' && Nat.ble Y.n0 i && ei.zs.all Value.oneCell' && Nat.beq ei.zs.length a.size then .need (0 < lo ∧ lo + n = l.length ∧ 0 < n) (mapSlotsK i true (.rs i k 0 l.length) s.t fun t => mapObjsK i true (.rs i k 0 l.length) s.h fun h => setNK h i (.row e' a (l.take lo)) fun h => K ⟨t, h⟩) else .bad 127
          | _ => .bad 127
        | _, _ => .bad 127
      | _, _, _ => .bad 127
    | .value (.func g) => mfK Y.M g fun S => opndsK s c.args.toList fun vs => srK (S.S vs s.h) fun v h => bif (S.ks vs).all (fun i => Nat.ble Y.n0 i || Y.ks.contains i) && Nat.ble Y.n0 s.h.length then killL (S.ks vs) s.t fun t => bif slotsBelow s.h.length t then objsK h fun h => putD Y.N o.dst v ⟨t, h⟩ K else .bad 132 else .bad 132
    | _ => .bad 133
  | _ => .bad 133
def isUndef : Value → Bool
  | .tuple us => match us.toList with | [] => true | _ => false
  | _ => false
theorem isUndef_eq {v : Value} (h : isUndef v = true) : v = undef := by
  unfold isUndef at h
  split at h
  · rename_i us
    split at h
    · rename_i e
      have : us = #[] := by apply Array.toList_inj.1; rw [e]
      rw [this]; rfl
    · cases h
  · cases h
def evG (Y : EY) (ops : List Oper) (s : ES) (o : Oper) (K : ES → Tree) : Tree :=
  match o.guard with
  | none => evP Y.toEX s o.op fun v => putD Y.N o.dst v s K
  | some (j, b) => nthK ops j fun p => match p.dst with
    | some t => findK s.t t fun v => match v with
      | .bl b' => match b', b with
        | true, true => evP Y.toEX s o.op fun v => putD Y.N o.dst v s K
        | false, false => evP Y.toEX s o.op fun v => putD Y.N o.dst v s K
        | _, _ => putD Y.N o.dst (.val undef) s K
      | .td .bool b' => .ite b'
        (match s with | ⟨st, sh⟩ => setS st t (.bl true) fun l => match b with
          | true => evP Y.toEX ⟨l, sh⟩ o.op fun v => putD Y.N o.dst v ⟨l, sh⟩ K
          | false => putD Y.N o.dst (.val undef) ⟨l, sh⟩ K)
        (match s with | ⟨st, sh⟩ => setS st t (.bl false) fun l => match b with
          | false => evP Y.toEX ⟨l, sh⟩ o.op fun v => putD Y.N o.dst v ⟨l, sh⟩ K
          | true => putD Y.N o.dst (.val undef) ⟨l, sh⟩ K)
      | .val u => bif isUndef u then putD Y.N o.dst (.val undef) s K else .bad 134
      | _ => .bad 134
    | none => .bad 134
def evL (Y : EY) (ops : List Oper) : List Oper → ES → (ES → Tree) → Tree
  | [], s, K => K s
  | o :: l, s, K => frz Y s o.op fun s => match o.guard with
    | none => bif isEff Y o.op then evE Y s o fun s => evL Y ops l s K else evG Y ops s o fun s => evL Y ops l s K
    | some _ => bif isEff Y o.op then .bad 135 else evG Y ops s o fun s => evL Y ops l s K
def evC (Y : EY) (ops : List Oper) : List Oper → ES → (ES → Tree) → Tree
  | [], s, K => K s
  | o :: l, s, K => bif isEff Y o.op then .bad 136 else evG Y ops s o fun s => evC Y ops l s K
def hasN : List Nat → Nat → Bool
  | [], _ => false
  | a :: l, t => Nat.beq a t || hasN l t
def leadW (Y : EY) : List Nat → List Oper → Nat
  | _, [] => 0
  | rs, o :: l => bif isEff Y o.op || (match o.dst with | some d => hasN rs d || hasN (opRds o) d | none => false) then 0 else leadW Y (opRds o ++ rs) l + 1
/-- Operations that only read, and write no slot that one before reads. -/
def lead (Y : EY) (l : List Oper) : Nat := leadW Y [] l
def evR (Y : EY) (ops : List Oper) (draw : Bool) (s : ES) (K : ES → Tree) : Tree :=
  match draw with
  | false => evL Y ops ops s K
  | true => evC Y ops (ops.take (lead Y ops)) s fun s => evL Y ops (ops.drop (lead Y ops)) s K
def drawGood (Y : EY) : Code → Bool
  | .region _ ops true => drawOkB ops (lead Y ops.toList) Y.N
  | .seq a b => drawGood Y a && drawGood Y b
  | .cond _ a b => drawGood Y a && drawGood Y b
  | .block _ c => drawGood Y c
  | .loop c => drawGood Y c
  | _ => true
def popTo (i : Nat) : List Item → (List Item → Tree) → Tree
  | [], _ => .bad 137
  | .block j :: k, K => bif Nat.beq i j then K k else popTo i k K
  | .code _ :: k, K => popTo i k K
  | .mark _ :: k, K => popTo i k K
def run (Y : EY) : Nat → List Item → ES → Tree
  | 0, _, _ => .bad 138
  | n + 1, it, s => match it with
    | [] => .ret s
    | .block _ :: k => run Y n k s
    | .mark d :: _ => .back d s
    | .code c :: k => match c with
      | .skip => run Y n k s
      | .label _ => run Y n k s
      | .seq a b => run Y n (.code a :: .code b :: k) s
      | .block i b => run Y n (.code b :: .block i :: k) s
      | .exit i => popTo i k fun k => run Y n k s
      | .ret => .ret s
      | .cond c a b => opndK s c fun v => match v with
        | .bl x => match x with
          | true => run Y n (.code a :: k) s
          | false => run Y n (.code b :: k) s
        | .td .bool x => match c with
          | .tmp t => match s with
            | ⟨st, sh⟩ => .ite x (setS st t (.bl true) fun l => run Y n (.code a :: k) ⟨l, sh⟩) (setS st t (.bl false) fun l => run Y n (.code b :: k) ⟨l, sh⟩)
          | _ => .ite x (run Y n (.code a :: k) s) (run Y n (.code b :: k) s)
        | _ => .bad 139
      | .region _ ops draw => evR Y ops.toList draw s fun s => run Y n k s
      | .loop b => .loop b k s
      | _ => .bad 140
end Go.Proofs.Ytpehmadeklaebaa
