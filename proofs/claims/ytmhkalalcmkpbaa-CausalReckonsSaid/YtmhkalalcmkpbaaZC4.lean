/-
  C4
-/
import Derived.Test.YtmhkalalcmkpbaaZC3
import Derived.Test.YtmhkalalcmkpbaaZOrd
namespace Go.Proofs.Ytmhkalalcmkpbaa
open Go Go.RowKit
set_option linter.unusedVariables false
set_option linter.unusedSimpArgs false

theorem flat_len_ {α : Type} {enc : α → List AV} {k : Nat} (hk : ∀ x, (enc x).length = k) : ∀ l : List α, (l.flatMap enc).length = l.length * k
  | [] => by simp
  | x :: l => by rw [List.flatMap_cons, List.length_append, hk, flat_len_ hk l, List.length_cons, Nat.add_mul, Nat.one_mul, Nat.add_comm]
theorem flat_take_ {α : Type} {enc : α → List AV} {k : Nat} (hk : ∀ x, (enc x).length = k) : ∀ (l : List α) (n : Nat), (l.flatMap enc).take (n * k) = (l.take n).flatMap enc
  | [], n => by simp
  | x :: l, 0 => by simp
  | x :: l, n + 1 => by
    rw [List.flatMap_cons, List.take_succ_cons, List.flatMap_cons, ← flat_take_ hk l n, show (n + 1) * k = (enc x).length + n * k by rw [hk, Nat.add_mul, Nat.one_mul, Nat.add_comm], List.take_append, List.take_of_length_le (by omega)]
    congr 2; omega
theorem flat_drop_ {α : Type} {enc : α → List AV} {k : Nat} (hk : ∀ x, (enc x).length = k) : ∀ (l : List α) (n : Nat), (l.flatMap enc).drop (n * k) = (l.drop n).flatMap enc
  | [], n => by simp
  | x :: l, 0 => by simp
  | x :: l, n + 1 => by
    rw [List.flatMap_cons, List.drop_succ_cons, ← flat_drop_ hk l n, show (n + 1) * k = (enc x).length + n * k by rw [hk, Nat.add_mul, Nat.one_mul, Nat.add_comm], List.drop_append, List.drop_eq_nil_of_le (by omega), List.nil_append]
    congr 1; omega
theorem ones_app : ∀ {a b : List AV}, AV.ones a = true → AV.ones b = true → AV.ones (a ++ b) = true
  | [], _, _, h => h
  | c :: a, b, h, k => by
    simp only [AV.ones, Bool.and_eq_true] at h
    simp only [List.cons_append, AV.ones, Bool.and_eq_true]
    exact ⟨h.1, ones_app h.2 k⟩
theorem ones_flat {α : Type} {enc : α → List AV} (h : ∀ x, AV.ones (enc x) = true) : ∀ l : List α, AV.ones (l.flatMap enc) = true
  | [] => rfl
  | x :: l => by rw [List.flatMap_cons]; exact ones_app (h x) (ones_flat h l)

section
variable {P : Program} {K : Prop} {N : Nat} {X : Nat → Prop} {h : List HObj} {f : Nat → AV} {o : Oper}
end
section
variable {P : Program} {C : Cx} {Q : Exit → AS → Prop} {f : Nat → AV} {h : List HObj} {ops : Array Oper} {o : Oper} {rest : List Oper}
/-- append, of things. -/
theorem sAppendL {α : Type} {enc : α → List AV} {t e : TypeId} {x y : Operand} (i : Nat) {v : Value} {kk bytes d : Nat} {l : List α} (m : List α) (hg : o.guard = none) (hd : o.dst = some d) (hN : Nat.blt d C.N = true) (ho : o.op = .call { callee := .builtin .append, args := #[x, y], argTypes := #[t, t] }) (ht : P.underlying t = some (.slice e)) (he : rowOf P e = some (kk, bytes))
    (hx : evalT f x = .x v) (hi : h[i]? = some (.row v e kk l.length (l.flatMap enc))) (hy : evalT f y = .sl kk m.length (m.flatMap enc)) (h1 : ∀ x, AV.ones (enc x) = true) (hb : (l.length + m.length) * bytes ≤ 140737488355328) (h63 : l.length + m.length ≤ 9223372036854775807)
    (k : ∀ v', WL none P C ops Q rest ⟨upd f d (.x v'), h.set i (.row v' e kk (l ++ m).length ((l ++ m).flatMap enc))⟩) : WL none P C ops Q (o :: rest) ⟨f, h⟩ :=
  sAppend i hg hd hN ho ht he hx hi hy (ones_flat h1 m) hb h63 fun v' => by
    have := k v'
    rw [List.length_append, List.flatMap_append] at this
    exact this
end

section
variable {P : Program} {K : Prop} {N : Nat} {X : Nat → Prop} {h : List HObj} {f : Nat → AV} {o : Oper}
theorem p_peqnil {t t' u : TypeId} {x : Operand} {p : Option Addr} (ho : o.op = .binOp .eql t x (.const (.pointer none)) t') (hx : evalT f x = .x (.pointer p)) (ht : P.underlying t = some (.pointer u)) : PureOp P K N X h f o (.x (.bool p.isNone)) := pure_run fun ac w w0 env H => by
  rw [ho] at H
  have g1 := H x (by simp [Op.operands])
  rw [hx, rep_x] at g1
  refine ⟨_, ?_, rep_x.2 rfl⟩
  have := run_eql_pointer_nil (P := P) w t p (by unfold Program.pointee; rw [ht])
  have hc : ac.eval (.const (.pointer none)) = .pointer none := rfl
  simp [execOp, ho, g1, eqGuard, hc, this]
end
section
variable {P : Program} {C : Cx} {Q : Exit → AS → Prop} {f : Nat → AV} {h : List HObj} {ops : Array Oper} {o : Oper} {rest : List Oper}
end
end Go.Proofs.Ytmhkalalcmkpbaa
