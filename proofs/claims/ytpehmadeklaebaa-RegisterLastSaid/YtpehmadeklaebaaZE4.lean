/-
  E4
-/
import Derived.Test.YtpehmadeklaebaaZE3
namespace Go.Proofs.Ytpehmadeklaebaa
open Go Go.RowKit
set_option linter.unusedVariables false
set_option linter.unusedSimpArgs false

inductive TK where
  | int (k : IntKind)
  | str
  | bool
  | st (fs : List (Nat × Nat))
  | arr (n e : Nat)
  | sl (e bytes : Nat)
  | ptr
  | other
/-- What is known of a type. -/
structure TI where
  k : TK
  ag : Bool
  sz : Nat
  code : Option Ty
  zs : List Value
def TK.ok (P : Program) (t : TypeId) : TK → Prop
  | .int k => P.underlying t = some (.int k)
  | .str => P.underlying t = some .string
  | .bool => P.underlying t = some .bool
  | .st fs => tyFields P t = some fs ∧ (stPlaces P t).isSome = true
  | .arr n e => P.underlying t = some (.array n e)
  | .sl e b => P.underlying t = some (.slice e) ∧ (rowOf P e).map (·.2) = some b
  | .ptr => ∃ u, P.underlying t = some (.pointer u)
  | .other => True
structure TIok (P : Program) (t : TypeId) (ti : TI) : Prop where
  ty : tyOf P t = some (ti.ag, ti.sz)
  kd : ti.k.ok P t
  zero : tyZero P t = some ti.zs
  code : ∀ c, ti.code = some c → c.size = ti.sz ∧ c.agg = ti.ag

/-- What is handed on: a value; a pointer to one that does not change. -/
inductive AT where
  | v (a : Ty)
  | p (a : Ty)
  | f (g : FuncId)
@[reducible] def AT.T : AT → Type
  | .v a => a.T
  | .p a => a.T
  | .f _ => Unit
def AT.den : (t : AT) → t.T → AV
  | .v a, x => a.den x
  | .p a, x => .ip (a.enc x)
  | .f g, _ => .x (.func (.func g) #[] #[])
@[reducible] def Args : List AT → Type
  | [] => Unit
  | t :: l => t.T × Args l
def denA : (l : List AT) → Args l → List AV
  | [], _ => []
  | t :: l, x => t.den x.1 :: denA l x.2
/-- A function that writes nothing: what it asks, and gives. -/
structure FE where
  g : FuncId
  ts : List AT
  pre : Args ts → Prop
  res : Args ts → EV
  ap : Args ts → (Prop → EV → Tree) → Tree
  eq : ∀ x K, ap x K = K (pre x) (res x)
def FE.ok (P : Program) (K : Prop) (fe : FE) : Prop := ∀ x, fe.pre x → ∀ m : Nm, PFn P K fe.g (denA fe.ts x) ((fe.res x).den m)
structure EX where
  T : List (TypeId × TI)
  F : List FE
  Q : List (TypeId × ((a : Ty) × (a.T → a.T → Bool)))
structure EXok (X : EX) (P : Program) (K : Prop) : Prop where
  T : ∀ t ti, (t, ti) ∈ X.T → TIok P t ti
  F : ∀ fe ∈ X.F, FE.ok P K fe
  Q : ∀ t (q : (a : Ty) × (a.T → a.T → Bool)), (t, q) ∈ X.Q → q.1.agg = true ∧ P.eqGuardType P.depth t = false ∧ ∀ x y, AV.exL (q.1.enc x) = true ∧ AV.exL (q.1.enc y) = true ∧ ∀ w, (Op.equalIn 10000 t (.agg (AV.vals (q.1.enc x)).toArray) (.agg (AV.vals (q.1.enc y)).toArray)).run P w = .ok (q.2 x y) w

def tiK : List (TypeId × TI) → TypeId → (TI → Tree) → Tree
  | [], t, _ => .bad (1000 + t)
  | (u, ti) :: l, t, K => bif Nat.beq u t then K ti else tiK l t K
def fnK : List FE → FuncId → (FE → Tree) → Tree
  | [], g, _ => .bad (100000 + g)
  | S :: l, g, K => bif Nat.beq S.g g then K S else fnK l g K
def eqsK : List (TypeId × ((a : Ty) × (a.T → a.T → Bool))) → TypeId → (((a : Ty) × (a.T → a.T → Bool)) → Tree) → Tree
  | [], t, _ => .bad (2000000 + t)
  | (u, q) :: l, t, K => bif Nat.beq u t then K q else eqsK l t K
def findK : List (Nat × EV) → Nat → (EV → Tree) → Tree
  | [], _, K => K .any
  | (d, v) :: l, t, K => bif Nat.beq t d then K v else findK l t K
def nthK {α : Type} : List α → Nat → (α → Tree) → Tree
  | [], _, _ => .bad 60
  | x :: _, 0, K => K x
  | _ :: l, n + 1, K => nthK l n K
def constE : Value → EV
  | .int k z => .td (.int k) z
  | .bool b => .bl b
  | .string s => .td .str s
  | .float .f64 n => .td .flt n
  | .slice none 0 0 => .nil
  | v => .val v
def constK (v : Value) (K : EV → Tree) : Tree :=
  match v with
  | .int k z => K (.td (.int k) z)
  | .bool b => K (.bl b)
  | .string s => K (.td .str s)
  | .float .f64 n => K (.td .flt n)
  | .slice none 0 0 => K .nil
  | v => K (.val v)
theorem constK_eq (v : Value) (K : EV → Tree) : constK v K = K (constE v) := by
  unfold constK constE
  split <;> rfl
def opndK (s : ES) (x : Operand) (K : EV → Tree) : Tree :=
  match x with
  | .tmp t => findK s.t t K
  | .const v => constK v K
  | .global g => K (.val (.pointer (some ⟨g, 0, none⟩)))
  | .func f => K (.val (.func (.func f) #[] #[]))
def opndsK (s : ES) : List Operand → (List EV → Tree) → Tree
  | [], K => K []
  | x :: l, K => opndK s x fun v => opndsK s l fun vs => K (v :: vs)

section
variable {E : EC} {B : Nat → ES → Prop} {R : ES → Prop} {m : Nm}
theorem tiK_ok {l : List (TypeId × TI)} {t : TypeId} {K : TI → Tree} (h : (tiK l t K).ok E B R) : ∃ ti, (t, ti) ∈ l ∧ (K ti).ok E B R := by
  induction l with
  | nil => exact h.elim
  | cons p l ih =>
    obtain ⟨u, ti⟩ := p
    unfold tiK at h
    cases hc : Nat.beq u t with
    | true => rw [hc] at h; obtain rfl := beqN hc; exact ⟨ti, by simp, h⟩
    | false => rw [hc] at h; obtain ⟨x, h1, h2⟩ := ih h; exact ⟨x, by simp [h1], h2⟩
theorem fnK_ok {l : List FE} {t : FuncId} {K : FE → Tree} (h : (fnK l t K).ok E B R) : ∃ S, S ∈ l ∧ S.g = t ∧ (K S).ok E B R := by
  induction l with
  | nil => exact h.elim
  | cons S l ih =>
    unfold fnK at h
    cases hc : Nat.beq S.g t with
    | true => rw [hc] at h; exact ⟨S, by simp, beqN hc, h⟩
    | false => rw [hc] at h; obtain ⟨x, h1, h2, h3⟩ := ih h; exact ⟨x, by simp [h1], h2, h3⟩
theorem eqsK_ok {l : List (TypeId × ((a : Ty) × (a.T → a.T → Bool)))} {t : TypeId} {K : ((a : Ty) × (a.T → a.T → Bool)) → Tree} (h : (eqsK l t K).ok E B R) : ∃ S, (t, S) ∈ l ∧ (K S).ok E B R := by
  induction l with
  | nil => exact h.elim
  | cons p l ih =>
    obtain ⟨u, ti⟩ := p
    unfold eqsK at h
    cases hc : Nat.beq u t with
    | true => rw [hc] at h; obtain rfl := beqN hc; exact ⟨ti, by simp, h⟩
    | false => rw [hc] at h; obtain ⟨x, h1, h2⟩ := ih h; exact ⟨x, by simp [h1], h2⟩
theorem findK_ok {l : List (Nat × EV)} {t : Nat} {K : EV → Tree} (h : (findK l t K).ok E B R) : ∃ v : EV, (K v).ok E B R ∧ slotsOf m l t = v.den m := by
  induction l with
  | nil => exact ⟨.any, h, rfl⟩
  | cons p l ih =>
    obtain ⟨d, v⟩ := p
    unfold findK at h
    simp only [slotsOf, upd]
    cases hc : Nat.beq t d with
    | true => rw [hc] at h; exact ⟨v, h, rfl⟩
    | false => rw [hc] at h; exact ih h
theorem nthK_ok {α : Type} {l : List α} {n : Nat} {K : α → Tree} (h : (nthK l n K).ok E B R) : ∃ x, l[n]? = some x ∧ (K x).ok E B R := by
  induction l generalizing n with
  | nil => exact h.elim
  | cons x l ih =>
    cases n with
    | zero => exact ⟨x, rfl, h⟩
    | succ n => exact ih h
theorem constE_den (v : Value) : (constE v).den m = .x v := by
  unfold constE
  split <;> rfl
theorem constE_flat (v : Value) : (constE v).flat m = [.x v] := by
  unfold constE
  split <;> rfl
theorem opndK_ok {s : ES} {x : Operand} {K : EV → Tree} (h : (opndK s x K).ok E B R) : ∃ v : EV, (K v).ok E B R ∧ evalT (slotsOf m s.t) x = v.den m := by
  unfold opndK at h
  split at h
  · exact findK_ok h
  · rw [constK_eq] at h; exact ⟨_, h, (constE_den _).symm⟩
  · exact ⟨_, h, rfl⟩
  · exact ⟨_, h, rfl⟩
theorem opndsK_ok {s : ES} : ∀ {l : List Operand} {K : List EV → Tree}, (opndsK s l K).ok E B R → ∃ vs : List EV, (K vs).ok E B R ∧ l.map (evalT (slotsOf m s.t)) = EV.denL m vs
  | [], K, h => ⟨[], h, rfl⟩
  | x :: l, K, h => by
    obtain ⟨v, h1, h2⟩ := opndK_ok (m := m) h
    obtain ⟨vs, h3, h4⟩ := opndsK_ok h1
    exact ⟨_, h3, by simp only [List.map_cons, EV.denL, h2, h4]⟩
end

theorem PureOp.sub {P : Program} {K : Prop} {N : Nat} {X : Nat → Prop} {h : List HObj} {f : Nat → AV} {o : Oper} {av av' : AV} (hp : PureOp P K N X h f o av) (hs : Sub av av') : PureOp P K N X h f o av' :=
  fun a w w0 hK env hsz hr next Q hk => hp a w w0 hK env hsz hr next Q fun v w' hb hv => hk v w' hb (hs _ _ _ hv)

/-- A whole number that fits. -/
def fitK (k : IntKind) (z : Int) (K : EV → Tree) : Tree :=
  match k with
  | .i64 => .need (-9223372036854775808 ≤ z ∧ z ≤ 9223372036854775807) (K (.td (.int .i64) z))
  | k => K (.td (.int k) (k.wrap z))
theorem fitK_ok {E : EC} {B : Nat → ES → Prop} {R : ES → Prop} {m : Nm} {k : IntKind} {z : Int} {K : EV → Tree} (h : (fitK k z K).ok E B R) : ∃ v : EV, (K v).ok E B R ∧ v.den m = .x (.int k (k.wrap z)) := by
  unfold fitK at h
  split at h
  · obtain ⟨⟨h1, h2⟩, h3⟩ := h
    refine ⟨_, h3, ?_⟩
    have hw : IntKind.i64.wrap z = z := by rw [IntKind.wrap_i64]; omega
    rw [hw]; rfl
  · exact ⟨_, h, rfl⟩
end Go.Proofs.Ytpehmadeklaebaa
