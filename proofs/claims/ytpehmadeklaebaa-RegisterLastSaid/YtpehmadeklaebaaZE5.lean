/-
  E5
-/
import Derived.Test.YtpehmadeklaebaaZE4
namespace Go.Proofs.Ytpehmadeklaebaa
open Go Go.RowKit
set_option linter.unusedVariables false
set_option linter.unusedSimpArgs false

/-- Two whole numbers. -/
def icK (op : BinOp) (k : IntKind) (a b : Int) (K : EV → Tree) : Tree :=
  match op with
  | .eql => K (.td .bool (decide (a = b)))
  | .neq => K (.td .bool (!decide (a = b)))
  | .lss => K (.td .bool (decide (a < b)))
  | .leq => K (.td .bool (decide (a ≤ b)))
  | .gtr => K (.td .bool (decide (b < a)))
  | .geq => K (.td .bool (decide (b ≤ a)))
  | .add => fitK k (a + b) K
  | .sub => fitK k (a - b) K
  | .mul => fitK k (a * b) K
  | _ => .bad 70
def scK (op : BinOp) (a b : ByteArray) (K : EV → Tree) : Tree :=
  match op with
  | .eql => K (.td .bool (decide (a = b)))
  | .neq => K (.td .bool (!decide (a = b)))
  | .lss => K (.td .bool (Op.bytesLess a.toList b.toList))
  | .gtr => K (.td .bool (!(Op.bytesLess a.toList b.toList || decide (a = b))))
  | .add => .need (a.size + b.size < 9223372036854775807) (K (.td .str (a ++ b)))
  | _ => .bad 71
def bcK (op : BinOp) (a b : Bool) (K : EV → Tree) : Tree :=
  match op with
  | .eql => K (.td .bool (decide (a = b)))
  | .neq => K (.td .bool (!decide (a = b)))
  | _ => .bad 72
def binK (X : EX) (op : BinOp) (t : TypeId) (a b : EV) (K : EV → Tree) : Tree :=
  match a, b with
  | .td (.int k) x, .td (.int j) y => match Ty.eqK (.int j) (.int k) with
    | some _ => icK op k x y K
    | none => .bad 73
  | .td .str x, .td .str y => scK op x y K
  | .td .bool x, .td .bool y => tiK X.T t fun ti => match ti.k with | .bool => bcK op x y K | _ => .bad 72
  | .td .bool x, .bl y => tiK X.T t fun ti => match ti.k with | .bool => bcK op x y K | _ => .bad 72
  | .bl x, .td .bool y => tiK X.T t fun ti => match ti.k with | .bool => bcK op x y K | _ => .bad 72
  | .bl x, .bl y => tiK X.T t fun ti => match ti.k with | .bool => bcK op x y K | _ => .bad 72
  | .own _ _, .val (.pointer none) => tiK X.T t fun ti => match op, ti.k with
    | .eql, .ptr => K (.bl false)
    | .neq, .ptr => K (.bl true)
    | _, _ => .bad 74
  | .val (.pointer none), .val (.pointer none) => tiK X.T t fun ti => match op, ti.k with
    | .eql, .ptr => K (.bl true)
    | .neq, .ptr => K (.bl false)
    | _, _ => .bad 75
  | .td c x, .td d y => eqsK X.Q t fun q => match Ty.eqK c q.1, Ty.eqK d q.1 with
    | some ⟨h⟩, some ⟨g⟩ => withT h x fun x => withT g y fun y => match op with
      | .eql => K (.td .bool (q.2 x y))
      | .neq => K (.td .bool (!q.2 x y))
      | _ => .bad 76
    | _, _ => .bad 77
  | _, _ => .bad 78
def convK (k : IntKind) (v : EV) (K : EV → Tree) : Tree :=
  match v with
  | .td (.int _) z => fitK k z K
  | _ => .bad 79
/-- What is left of a row or an own block for one who just reads. -/
def EV.view (h : List EO) (v : EV) (K : EV → Tree) : Tree :=
  match v with
  | .row i => nthK h i fun o => match o with
    | .row _ a l => K (.td (.list a) l)
    | _ => .bad 80
  | .own i [] => nthK h i fun o => match o with
    | .cell _ (.td a x) => K (.lp a x [])
    | _ => .bad 81
  | v => K v
def viewsK (h : List EO) : List EV → (List EV → Tree) → Tree
  | [], K => K []
  | v :: l, K => v.view h fun u => viewsK h l fun us => K (u :: us)
def Ty.scal : Ty → Bool
  | .list _ => false
  | .pair a b => a.scal && b.scal
  | .arr _ a => a.scal
  | .one a => a.scal
  | _ => true
def EV.scal : EV → Bool
  | .td a _ => a.scal
  | .bl _ => true
  | .val _ => true
  | .nil => true
  | .tup fs => go fs
  | _ => false
where go : List EV → Bool
  | [] => true
  | v :: l => (!v.isAgg || true) && v.scal && go l
/-- Nothing of the call's own. -/
def EV.free : EV → Bool
  | .td _ _ => true
  | .bl _ => true
  | .val _ => true
  | .nil => true
  | .lp _ _ _ => true
  | .st fs => go fs
  | .tup fs => go fs
  | .fn _ fs => go fs
  | _ => false
where go : List EV → Bool
  | [] => true
  | v :: l => v.free && go l

def geK (z : Int) (T : Tree) : Tree := .need (0 ≤ z) T
/-- A bound of a cut. -/
def bndK (s : ES) (d : Nat) (x : Option Operand) (K : Nat → Tree) : Tree :=
  match x with
  | none => K d
  | some x => opndK s x fun v => match v with
    | .td (.int _) z => geK z (K (Int.toNat z))
    | _ => .bad 82
def putsK (X : EX) (fs : List (Nat × Nat)) : EV → List (Nat × EV) → (EV → Tree) → Tree
  | c, [], K => K c
  | c, (j, w) :: l, K => nthK fs j fun f => tiK X.T f.2 fun ui => bif Nat.beq w.size ui.sz then putP c (oo f.1 []) w fun c => putsK X fs c l K else .bad 115
def opndpK (s : ES) : List (Nat × Operand) → (List (Nat × EV) → Tree) → Tree
  | [], K => K []
  | x :: l, K => opndK s x.2 fun v => opndpK s l fun vs => K ((x.1, v) :: vs)
/-- The elements of a slice literal, one after the other. -/
def elemsK (a : Ty) : Nat → List (Nat × EV) → (List a.T → Tree) → Tree
  | _, [], K => K []
  | i, (j, w) :: l, K => bif Nat.beq i j then decK a w fun x => elemsK a (i + 1) l fun xs => K (x :: xs) else .bad 83
def zeroK (ti : TI) (K : EV → Tree) : Tree :=
  match ti.code with
  | some c => decL c (ti.zs.map constE) fun x r => match r with | [] => K (.td c x) | _ => .bad 84
  | none => K (.st (ti.zs.map constE))
def typK (c : Option Ty) (v : EV) (K : EV → Tree) : Tree :=
  match v with
  | .st fs => match c with
    | some c => bif (EV.st fs).typed && c.agg then decK c (.st fs) fun x => K (.td c x) else K (.st fs)
    | none => K (.st fs)
  | v => K v

/-- What is handed on, as it is asked for. -/
def decT (a : Ty) (v : EV) (K : a.T → Tree) : Tree :=
  match v with
  | .st fs => bif a.agg then decK a (.st fs) K else .bad 140
  | v => decV a v K
def emp {α : Type} (a : Array α) : Bool := match a.toList with | [] => true | _ => false
theorem emp_eq {α : Type} {a : Array α} (h : emp a = true) : a = #[] := by
  unfold emp at h
  split at h
  · rename_i e; exact Array.toList_inj.1 e
  · cases h
def decA : (l : List AT) → List EV → (Args l → Tree) → Tree
  | [], vs, K => match vs with
    | [] => K ()
    | _ => .bad 141
  | .v a :: l, vs, K => match vs with
    | v :: vs => decT a v fun x => decA l vs fun xs => K (x, xs)
    | [] => .bad 142
  | .p a :: l, vs, K => match vs with
    | .lp b y [] :: vs => match Ty.eqK b a with
      | some ⟨h⟩ => withT h y fun x => decA l vs fun xs => K (x, xs)
      | none => .bad 143
    | _ => .bad 144
  | .f g :: l, vs, K => match vs with
    | .val (.func (.func g') a b) :: vs => bif Nat.beq g g' && emp a && emp b then decA l vs fun xs => K ((), xs) else .bad 145
    | _ => .bad 146
def callK (X : EX) (s : ES) (g : FuncId) (vs : List EV) (K : EV → Tree) : Tree :=
  fnK X.F g fun S => viewsK s.h vs fun us => decA S.ts us fun x => S.ap x fun p r => bif r.scal || EV.free.go vs then .need p (K r) else .bad 110
def inK (z : Int) (n : Nat) (T : Tree) : Tree := .need (0 ≤ z ∧ z < (n : Int)) T

def fnV (v : EV) (K : EV → Tree) : Tree :=
  match v with
  | .val (.func (.func g) a b) => match a.toList, b.toList with
    | [], [] => K (.fn g [])
    | _, _ => K v
  | v => K v
def evP (X : EX) (s : ES) (op : Op) (K : EV → Tree) : Tree :=
  match op with
  | .move x => opndK s x fun v => fnV v K
  | .assign x => opndK s x fun v => fnV v K
  | .nilCheck x => opndK s x fun v => match v with
    | .own i p => K (.own i p)
    | .lp a x p => K (.lp a x p)
    | _ => .bad 85
  | .binOp op t x y _ => opndK s x fun a => opndK s y fun b => binK X op t a b K
  | .unOp .not _ x => opndK s x fun v => match v with
    | .td .bool b => K (.td .bool (!b))
    | .bl b => match b with | true => K (.bl false) | false => K (.bl true)
    | _ => .bad 86
  | .unOp .neg _ x => opndK s x fun v => match v with
    | .td (.int k) z => fitK k (0 - z) K
    | _ => .bad 86
  | .pick c x y => opndK s c fun cv => opndK s x fun a => opndK s y fun b => match cv with
    | .bl b' => match b' with | true => K a | false => K b
    | .td .bool b' => .ite b' (K a) (K b)
    | _ => .bad 87
  | .extract x i => opndK s x fun v => match v with
    | .tup fs => nthK fs i K
    | _ => .bad 88
  | .convert src dst x => opndK s x fun v => tiK X.T src fun si => tiK X.T dst fun ti => match si.k, ti.k with
    | .int _, .int k => convK k v K
    | _, _ => .bad 89
  | .field t x j => opndK s x fun v => bif v.isAgg then tiK X.T t fun ti => match ti.k with
      | .st fs => nthK fs j fun f => tiK X.T f.2 fun ui => getP v (oo f.1 []) ui.ag ui.sz fun u => typK ui.code u K
      | _ => .bad 90
    else .bad 90
  | .fieldAddr t x j => opndK s x fun v => tiK X.T t fun ti => match ti.k with
    | .st fs => nthK fs j fun f => tiK X.T f.2 fun ui => bif Nat.beq ui.sz 0 then .bad 91 else match v with
      | .own i p => K (.own i (p ++ oo f.1 []))
      | .lp a x p => K (.lp a x (p ++ oo f.1 []))
      | _ => .bad 92
    | _ => .bad 93
  | .indexAddr t x y => opndK s x fun v => opndK s y fun i => tiK X.T t fun ti => match ti.k, i with
    | .arr n e, .td (.int _) z => tiK X.T e fun ei => match v with
      | .own i p => inK z n (K (.own i (p ++ [.x ei.sz (Int.toNat z)])))
      | _ => .bad 94
    | .sl e _, .td (.int _) z => tiK X.T e fun ei => bif Nat.beq ei.sz 0 then .bad 95 else match v with
      | .td (.list a) l => bif Nat.beq ei.sz a.size then inK z l.length (K (.lp a (l.getD (Int.toNat z) a.dflt) [])) else .bad 95
      | .row i => nthK s.h i fun o => match o with
        | .row _ a l => bif Nat.beq ei.sz a.size then inK z l.length (K (.rp i a.size (Int.toNat z) [])) else .bad 95
        | _ => .bad 95
      | .rs i k lo n => nthK s.h i fun o => match o with
        | .row _ a l => bif Nat.beq ei.sz a.size && Nat.beq k a.size then inK z n (.need (lo + Int.toNat z < l.length) (K (.rp i k (lo + Int.toNat z) []))) else .bad 95
        | _ => .bad 95
      | _ => .bad 95
    | _, _ => .bad 96
  | .index t x y => opndK s x fun v => opndK s y fun i => tiK X.T t fun ti => match ti.k, v, i with
    | .str, .td .str b, .td (.int _) z => inK z b.size (K (.td (.int .u8) ((b[Int.toNat z]!.toNat : Nat) : Int)))
    | .arr n e, v, .td (.int _) z => bif v.isAgg then tiK X.T e fun ei => inK z n (getP v [.x ei.sz (Int.toNat z)] ei.ag ei.sz K) else .bad 97
    | _, _, _ => .bad 97
  | .load t x => opndK s x fun v => tiK X.T t fun ti => match v with
    | .own i p => nthK s.h i fun o => match o with
      | .cell _ c => getP c p ti.ag ti.sz fun u => typK ti.code u K
      | _ => .bad 98
    | .lp a x p => subK a x p ti.ag ti.sz K
    | .rp i k z p => nthK s.h i fun o => match o with
      | .row _ a l => bif Nat.beq k a.size then .need (z < l.length) (subK a (l.getD z a.dflt) p ti.ag ti.sz K) else .bad 99
      | _ => .bad 99
    | _ => .bad 100
  | .build t parts => opndpK s parts.toList fun vs => tiK X.T t fun ti => match ti.k with
    | .st fs => bif vs.all (fun p => p.2.okS) && ti.ag then zeroK ti fun c => putsK X fs c vs fun c => bif c.isAgg then typK ti.code c K else .bad 116 else .bad 101
    | _ => .bad 102
  | .buildSlice t n parts => opndpK s parts.toList fun vs => tiK X.T t fun ti => match ti.k with
    | .sl e _ => tiK X.T e fun ei => match ei.code with
      | some a => bif vs.all (fun p => p.2.okS) && Nat.beq n vs.length && !Nat.beq ei.sz 0 && !Nat.beq n 0 && Nat.ble (n * ei.sz) 16777216 then elemsK a 0 vs fun l => K (.td (.list a) l) else .bad 103
      | none => .bad 104
    | _ => .bad 104
  | .makeFunc (.func g) first captured => match first.toList with
    | [] => opndsK s captured.toList fun vs => K (.fn g vs)
    | _ => .bad 105
  | .slice t x lo hi none => opndK s x fun v => tiK X.T t fun ti => match ti.k, v with
    | .sl e _, .td (.list a) l => tiK X.T e fun ei => bif Nat.beq ei.sz a.size then bndK s 0 lo fun i => bndK s l.length hi fun j => .need (i ≤ j ∧ j ≤ l.length) (match lo, hi with
        | none, none => K (.td (.list a) l)
        | none, some _ => K (.td (.list a) (l.take j))
        | some _, none => K (.td (.list a) (l.drop i))
        | some _, some _ => K (.td (.list a) ((l.take j).drop i))) else .bad 106
    | .sl e _, .row i => tiK X.T e fun ei => nthK s.h i fun o => match o with
      | .row _ a l => bif Nat.beq ei.sz a.size then bndK s 0 lo fun p => bndK s l.length hi fun q => .need (p ≤ q ∧ q ≤ l.length ∧ p < l.length) (K (.rs i a.size p (q - p))) else .bad 106
      | _ => .bad 106
    | .sl e _, .rs i k p0 n => tiK X.T e fun ei => nthK s.h i fun o => match o with
      | .row _ a l => bif Nat.beq ei.sz a.size && Nat.beq k a.size then bndK s 0 lo fun p => bndK s n hi fun q => .need (p ≤ q ∧ p0 + q ≤ l.length ∧ p0 + p < l.length) (K (.rs i k (p0 + p) (q - p))) else .bad 106
      | _ => .bad 106
    | .str, .td .str b => bndK s 0 lo fun i => bndK s b.size hi fun j => .need (i ≤ j ∧ j ≤ b.size) (K (.td .str (b.extract i j)))
    | _, _ => .bad 107
  | .call c => match c.callee with
    | .builtin .len => match c.args.toList, c.argTypes.toList with
      | [x], [t] => opndK s x fun v => tiK X.T t fun ti => match ti.k, v with
        | .str, .td .str b => K (.td (.int .i64) (b.size : Int))
        | .sl _ _, .td (.list a) l => K (.td (.int .i64) (l.length : Int))
        | .sl _ _, .nil => K (.td (.int .i64) (0 : Int))
        | .sl _ _, .row i => nthK s.h i fun o => match o with
          | .row _ a l => K (.td (.int .i64) (l.length : Int))
          | _ => .bad 108
        | .sl _ _, .rs i _ _ n => nthK s.h i fun o => match o with
          | .row _ a l => .need (0 < l.length) (K (.td (.int .i64) (n : Int)))
          | _ => .bad 108
        | _, _ => .bad 108
      | _, _ => .bad 108
    | .builtin .min => match c.args.toList, c.argTypes.toList with
      | [x, y], [_, _] => opndK s x fun v => opndK s y fun w => match v, w with
        | .td (.int k) a, .td (.int j) b => match Ty.eqK (.int j) (.int k) with
          | some _ => K (.td (.int k) (min a b))
          | none => .bad 109
        | _, _ => .bad 109
      | _, _ => .bad 109
    | .builtin .max => match c.args.toList, c.argTypes.toList with
      | [x, y], [_, _] => opndK s x fun v => opndK s y fun w => match v, w with
        | .td (.int k) a, .td (.int j) b => match Ty.eqK (.int j) (.int k) with
          | some _ => K (.td (.int k) (max a b))
          | none => .bad 109
        | _, _ => .bad 109
      | _, _ => .bad 109
    | .value (.func g) => opndsK s c.args.toList fun vs => callK X s g vs K
    | .value x => opndK s x fun cv => match cv with
      | .fn g cs => opndsK s c.args.toList fun vs => callK X s g (vs ++ cs) K
      | _ => .bad 112
    | _ => .bad 113
  | _ => .bad 114
end Go.Proofs.Ytpehmadeklaebaa
