/-
  C4
-/
import Derived.Test.YtmhkalalcmkpbaaZC3
import Derived.Test.YtmhkalalcmkpbaaZOrd
namespace Go.Proofs.Ytmhkalalcmkpbaa
open Go Go.RowKit
set_option linter.unusedVariables false
set_option linter.unusedSimpArgs false

theorem flat_len_ {α : Type} {enc : α → List AV} {k : Nat} (hk : ∀ x, (enc x).length = k) : ∀ l : List α, (l.flatMap enc).length = l.length * k
  | [] => by simp
  | x :: l => by rw [List.flatMap_cons, List.length_append, hk, flat_len_ hk l, List.length_cons, Nat.add_mul, Nat.one_mul, Nat.add_comm]
theorem flat_take_ {α : Type} {enc : α → List AV} {k : Nat} (hk : ∀ x, (enc x).length = k) : ∀ (l : List α) (n : Nat), (l.flatMap enc).take (n * k) = (l.take n).flatMap enc
  | [], n => by simp
  | x :: l, 0 => by simp
  | x :: l, n + 1 => by
    rw [List.flatMap_cons, List.take_succ_cons, List.flatMap_cons, ← flat_take_ hk l n, show (n + 1) * k = (enc x).length + n * k by rw [hk, Nat.add_mul, Nat.one_mul, Nat.add_comm], List.take_append, List.take_of_length_le (by omega)]
    congr 2; omega
theorem flat_drop_ {α : Type} {enc : α → List AV} {k : Nat} (hk : ∀ x, (enc x).length = k) : ∀ (l : List α) (n : Nat), (l.flatMap enc).drop (n * k) = (l.drop n).flatMap enc
  | [], n => by simp
  | x :: l, 0 => by simp
  | x :: l, n + 1 => by
    rw [List.flatMap_cons, List.drop_succ_cons, ← flat_drop_ hk l n, show (n + 1) * k = (enc x).length + n * k by rw [hk, Nat.add_mul, Nat.one_mul, Nat.add_comm], List.drop_append, List.drop_eq_nil_of_le (by omega), List.nil_append]
    congr 1; omega
theorem ones_app : ∀ {a b : List AV}, AV.ones a = true → AV.ones b = true → AV.ones (a ++ b) = true
  | [], _, _, h => h
  | c :: a, b, h, k => by
    simp only [AV.ones, Bool.and_eq_true] at h
    simp only [List.cons_append, AV.ones, Bool.and_eq_true]
    exact ⟨h.1, ones_app h.2 k⟩
theorem ones_flat {α : Type} {enc : α → List AV} (h : ∀ x, AV.ones (enc x) = true) : ∀ l : List α, AV.ones (l.flatMap enc) = true
  | [] => rfl
  | x :: l => by rw [List.flatMap_cons]; exact ones_app (h x) (ones_flat h l)

section
variable {P : Program} {K : Prop} {N : Nat} {X : Nat → Prop} {h : List HObj} {f : Nat → AV} {o : Oper}
/-- A cut of a slice of things. -/
theorem pCut {α : Type} {enc : α → List AV} {t e : TypeId} {x : Operand} {lo hi : Option Operand} {kk : Nat} {l : List α} {b : Bool} (a c : Nat) (ho : o.op = .slice t x lo hi none) (hx : evalT f x = .sl kk l.length (l.flatMap enc)) (ht : P.underlying t = some (.slice e)) (he : tyOf P e = some (b, kk)) (hk : ∀ x, (enc x).length = kk)
    (hlo : boundOf f 0 lo a) (hhi : boundOf f l.length hi c) (h1 : a ≤ c) (h2 : c ≤ l.length) : PureOp P K N X h f o (.sl kk ((l.take c).drop a).length (((l.take c).drop a).flatMap enc)) := by
  have := p_slice_sl (K := K) (N := N) (X := X) (h := h) ho hx ht he hlo hhi h1 h2
  rw [flat_take_ hk, flat_drop_ hk] at this
  rw [List.length_drop, List.length_take, Nat.min_eq_left h2]
  exact this
end
section
variable {P : Program} {C : Cx} {Q : Exit → AS → Prop} {f : Nat → AV} {h : List HObj} {ops : Array Oper} {o : Oper} {rest : List Oper}
/-- append, of things. -/
theorem sAppendL {α : Type} {enc : α → List AV} {t e : TypeId} {x y : Operand} (i : Nat) {v : Value} {kk bytes d : Nat} {l : List α} (m : List α) (hg : o.guard = none) (hd : o.dst = some d) (hN : Nat.blt d C.N = true) (ho : o.op = .call { callee := .builtin .append, args := #[x, y], argTypes := #[t, t] }) (ht : P.underlying t = some (.slice e)) (he : rowOf P e = some (kk, bytes))
    (hx : evalT f x = .x v) (hi : h[i]? = some (.row v e kk l.length (l.flatMap enc))) (hy : evalT f y = .sl kk m.length (m.flatMap enc)) (h1 : ∀ x, AV.ones (enc x) = true) (hb : (l.length + m.length) * bytes ≤ 140737488355328) (h63 : l.length + m.length ≤ 9223372036854775807)
    (k : ∀ v', WL none P C ops Q rest ⟨upd f d (.x v'), h.set i (.row v' e kk (l ++ m).length ((l ++ m).flatMap enc))⟩) : WL none P C ops Q (o :: rest) ⟨f, h⟩ :=
  sAppend i hg hd hN ho ht he hx hi hy (ones_flat h1 m) hb h63 fun v' => by
    have := k v'
    rw [List.length_append, List.flatMap_append] at this
    exact this
end

section
variable {P : Program} {K : Prop} {N : Nat} {X : Nat → Prop} {h : List HObj} {f : Nat → AV} {o : Oper}
theorem p_peqnil {t t' u : TypeId} {x : Operand} {p : Option Addr} (ho : o.op = .binOp .eql t x (.const (.pointer none)) t') (hx : evalT f x = .x (.pointer p)) (ht : P.underlying t = some (.pointer u)) : PureOp P K N X h f o (.x (.bool p.isNone)) := pure_run fun ac w w0 env H => by
  rw [ho] at H
  have g1 := H x (by simp [Op.operands])
  rw [hx, rep_x] at g1
  refine ⟨_, ?_, rep_x.2 rfl⟩
  have := run_eql_pointer_nil (P := P) w t p (by unfold Program.pointee; rw [ht])
  have hc : ac.eval (.const (.pointer none)) = .pointer none := rfl
  simp [execOp, ho, g1, eqGuard, hc, this]
theorem p_pnenil {t t' u : TypeId} {x : Operand} {p : Option Addr} (ho : o.op = .binOp .neq t x (.const (.pointer none)) t') (hx : evalT f x = .x (.pointer p)) (ht : P.underlying t = some (.pointer u)) : PureOp P K N X h f o (.x (.bool !p.isNone)) := pure_run fun ac w w0 env H => by
  rw [ho] at H
  have g1 := H x (by simp [Op.operands])
  rw [hx, rep_x] at g1
  refine ⟨_, ?_, rep_x.2 rfl⟩
  have := run_neq_pointer_nil (P := P) w t p (by unfold Program.pointee; rw [ht])
  have hc : ac.eval (.const (.pointer none)) = .pointer none := rfl
  simp [execOp, ho, g1, eqGuard, hc, this]
end
section
variable {P : Program} {C : Cx} {Q : Exit → AS → Prop} {f : Nat → AV} {h : List HObj} {ops : Array Oper} {o : Oper} {rest : List Oper}
/-- A guard that says yes is as none. -/
theorem sWant {j t : Nat} {b : Bool} (hg : o.guard = some (j, b)) (hj : (ops[j]?).bind (·.dst) = some t) (ht : f t = .x (.bool b)) (k : WL none P C ops Q ({ o with guard := none } :: rest) ⟨f, h⟩) : WL none P C ops Q (o :: rest) ⟨f, h⟩ := ⟨by
  intro a w hs
  have h1 := hs.slots.slot t
  simp only at h1
  rw [ht, rep_x] at h1
  have hw : Region.wanted o (yielded ops a.tmps) = true := by
    have : yielded ops a.tmps j = some b := yield_bool hj h1
    simp [Region.wanted, hg, this]
  have h2 := k.run a w hs
  have hw2 : Region.wanted { o with guard := none } (yielded ops a.tmps) = true := rfl
  unfold wpList at h2 ⊢
  rw [if_pos hw2] at h2
  rw [if_pos hw]
  exact h2⟩
end
/-- Where a thing goes in. -/
theorem ins_atG {α : Type} [DecidableEq α] {lt : α → α → Bool} {l : List α} {x : α} {k : Nat} (hx : x ∉ l) (hk : k ≤ l.length) (h1 : ∀ (j : Nat) y, j < k → l[j]? = some y → lt y x = true) (h2 : ∀ y, l[k]? = some y → lt y x = false) : insK lt l x = l.take k ++ [x] ++ l.drop k := by
  have key : ∀ (l : List α) (k : Nat), k ≤ l.length → (∀ (j : Nat) y, j < k → l[j]? = some y → lt y x = true) → (∀ y, l[k]? = some y → lt y x = false) → l.takeWhile (fun y => lt y x) = l.take k ∧ l.dropWhile (fun y => lt y x) = l.drop k := by
    intro l
    induction l with
    | nil => intro k _ _ _; simp
    | cons y l ih =>
      intro k hk h1 h2
      cases k with
      | zero =>
        have := h2 y rfl
        simp [List.takeWhile_cons, List.dropWhile_cons, this]
      | succ k =>
        have hy := h1 0 y (by omega) rfl
        obtain ⟨a, b⟩ := ih k (by simpa using hk) (fun j z hj hz => h1 (j + 1) z (by omega) (by simpa using hz)) (fun z hz => h2 z (by simpa using hz))
        simp [List.takeWhile_cons, List.dropWhile_cons, hy, a, b]
  obtain ⟨a, b⟩ := key l k hk h1 h2
  unfold insK
  rw [if_neg hx, a, b]; simp
end Go.Proofs.Ytmhkalalcmkpbaa
