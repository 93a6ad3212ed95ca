/-
  E6
-/
import Derived.Test.YtpehmadeklaebaaZE5
import Derived.Laws.StructEq
namespace Go.Proofs.Ytpehmadeklaebaa
open Go Go.RowKit
set_option linter.unusedVariables false
set_option linter.unusedSimpArgs false

section
variable {P : Program} {K : Prop} {N : Nat} {X : Nat → Prop} {h : List HObj} {f : Nat → AV} {o : Oper}
theorem pe_eqs {t t' : TypeId} {x y : Operand} {cs ds : List AV} {r : Bool} (ho : o.op = .binOp .eql t x y t') (hx : evalT f x = .agg cs) (hy : evalT f y = .agg ds) (h1 : AV.exL cs = true) (h2 : AV.exL ds = true) (hg : P.eqGuardType P.depth t = false)
    (heq : ∀ w, (Op.equalIn 10000 t (.agg (AV.vals cs).toArray) (.agg (AV.vals ds).toArray)).run P w = .ok r w) : PureOp P K N X h f o (.x (.bool r)) := pure_run fun ac w w0 env H => by
  rw [ho] at H
  have g1 := H x (by simp [Op.operands])
  have g2 := H y (by simp [Op.operands])
  rw [hx, AV.rep_val _ (by simpa only [AV.ex] using h1)] at g1
  rw [hy, AV.rep_val _ (by simpa only [AV.ex] using h2)] at g2
  simp only [AV.val] at g1 g2
  refine ⟨.bool r, ?_, rep_x.2 rfl⟩
  simp [execOp, ho, g1, g2, eqGuard, hg, binOp, Op.equal, Op.maxDepth, heq]
theorem pe_nes {t t' : TypeId} {x y : Operand} {cs ds : List AV} {r : Bool} (ho : o.op = .binOp .neq t x y t') (hx : evalT f x = .agg cs) (hy : evalT f y = .agg ds) (h1 : AV.exL cs = true) (h2 : AV.exL ds = true) (hg : P.eqGuardType P.depth t = false)
    (heq : ∀ w, (Op.equalIn 10000 t (.agg (AV.vals cs).toArray) (.agg (AV.vals ds).toArray)).run P w = .ok r w) : PureOp P K N X h f o (.x (.bool !r)) := pure_run fun ac w w0 env H => by
  rw [ho] at H
  have g1 := H x (by simp [Op.operands])
  have g2 := H y (by simp [Op.operands])
  rw [hx, AV.rep_val _ (by simpa only [AV.ex] using h1)] at g1
  rw [hy, AV.rep_val _ (by simpa only [AV.ex] using h2)] at g2
  simp only [AV.val] at g1 g2
  refine ⟨.bool !r, ?_, rep_x.2 rfl⟩
  simp [execOp, ho, g1, g2, eqGuard, hg, binOp, Op.equal, Op.maxDepth, heq]
theorem pe_beq {t t' : TypeId} {x y : Operand} {a b : Bool} (ho : o.op = .binOp .eql t x y t') (hx : evalT f x = .x (.bool a)) (hy : evalT f y = .x (.bool b)) (ht : P.underlying t = some .bool) : PureOp P K N X h f o (.x (.bool (decide (a = b)))) := pure_run fun ac w w0 env H => by
  rw [ho] at H
  have g1 := H x (by simp [Op.operands])
  have g2 := H y (by simp [Op.operands])
  rw [hx, rep_x] at g1
  rw [hy, rep_x] at g2
  refine ⟨_, ?_, rep_x.2 rfl⟩
  have he := run_equal_bool (P := P) (w := w) t a b ht
  simp [execOp, ho, g1, g2, eqGuard, binOp, he]
  cases a <;> cases b <;> rfl
theorem pe_bne {t t' : TypeId} {x y : Operand} {a b : Bool} (ho : o.op = .binOp .neq t x y t') (hx : evalT f x = .x (.bool a)) (hy : evalT f y = .x (.bool b)) (ht : P.underlying t = some .bool) : PureOp P K N X h f o (.x (.bool (!decide (a = b)))) := pure_run fun ac w w0 env H => by
  rw [ho] at H
  have g1 := H x (by simp [Op.operands])
  have g2 := H y (by simp [Op.operands])
  rw [hx, rep_x] at g1
  rw [hy, rep_x] at g2
  refine ⟨_, ?_, rep_x.2 rfl⟩
  have he := run_equal_bool (P := P) (w := w) t a b ht
  simp [execOp, ho, g1, g2, eqGuard, binOp, he]
  cases a <;> cases b <;> rfl
theorem pe_peq {t t' u : TypeId} {x y : Operand} {p : Option Addr} (ho : o.op = .binOp .eql t x y t') (hx : evalT f x = .x (.pointer p)) (hy : evalT f y = .x (.pointer none)) (ht : P.underlying t = some (.pointer u)) : PureOp P K N X h f o (.x (.bool p.isNone)) := pure_run fun ac w w0 env H => by
  rw [ho] at H
  have g1 := H x (by simp [Op.operands])
  have g2 := H y (by simp [Op.operands])
  rw [hx, rep_x] at g1
  rw [hy, rep_x] at g2
  refine ⟨_, ?_, rep_x.2 rfl⟩
  have := run_eql_pointer_nil (P := P) w t p (by unfold Program.pointee; rw [ht])
  simp [execOp, ho, g1, eqGuard, g2, this]
theorem pe_pne {t t' u : TypeId} {x y : Operand} {p : Option Addr} (ho : o.op = .binOp .neq t x y t') (hx : evalT f x = .x (.pointer p)) (hy : evalT f y = .x (.pointer none)) (ht : P.underlying t = some (.pointer u)) : PureOp P K N X h f o (.x (.bool !p.isNone)) := pure_run fun ac w w0 env H => by
  rw [ho] at H
  have g1 := H x (by simp [Op.operands])
  have g2 := H y (by simp [Op.operands])
  rw [hx, rep_x] at g1
  rw [hy, rep_x] at g2
  refine ⟨_, ?_, rep_x.2 rfl⟩
  have := run_neq_pointer_nil (P := P) w t p (by unfold Program.pointee; rw [ht])
  simp [execOp, ho, g1, eqGuard, g2, this]
/-- A call that gives something of no memory: it may read what is the call's own. -/
theorem pe_callB {g : FuncId} {x : Operand} {cs : List AV} {xs : Array Operand} {ts : Array TypeId} {avs : List AV} {av : AV} (ho : o.op = .call { callee := .value x, args := xs, argTypes := ts }) (hx : evalT f x = .fn g cs ∨ (evalT f x = .x (.func (.func g) #[] #[]) ∧ cs = [])) (hp : PFn P K g avs av) (hsc : av.ex = true)
    (H : ∀ (w0 : Orig) (w : World) (us : List Value), Env X w0 h w → us.length = (xs.toList.map (evalT f) ++ cs).length → RepC (owned X h) w (xs.toList.map (evalT f) ++ cs) (fun j => us[j]?) → us.length = avs.length ∧ RepC (fun _ => False) w avs (fun j => us[j]?)) : PureOp P K N X h f o av := by
  intro a w w0 hK env hsz hr next Q hk
  have hrx : ∀ y ∈ xs.toList, Rep (owned X h) w (evalT f y) (a.eval y) := fun y hy => by
    have hm : y ∈ o.op.operands.toList := by rw [ho]; simp [Op.operands, Call.operands]; exact .inr (by simpa using hy)
    cases y with
    | tmp t => exact hr t (opRds_mem hm)
    | const v => simp only [evalT, Rep, Act.eval]
    | global g => simp only [evalT, Rep, Act.eval]
    | func g => simp only [evalT, Rep, Act.eval]
  have hrc : Rep (owned X h) w (evalT f x) (a.eval x) := by
    have hm : x ∈ o.op.operands.toList := by rw [ho]; simp [Op.operands, Call.operands]
    cases x with
    | tmp t => exact hr t (opRds_mem hm)
    | const v => simp only [evalT, Rep, Act.eval]
    | global g => simp only [evalT, Rep, Act.eval]
    | func g => simp only [evalT, Rep, Act.eval]
  obtain ⟨us, e1, e2, e3⟩ : ∃ us : Array Value, a.eval x = .func (.func g) #[] us ∧ us.size = cs.length ∧ RepC (owned X h) w cs (fun j => us[j]?) := by
    rcases hx with hx | ⟨hx, rfl⟩
    · rw [hx] at hrc
      simp only [Rep] at hrc
      exact hrc
    · rw [hx, rep_x] at hrc
      exact ⟨#[], hrc, rfl, by simp [RepC]⟩
  have hrun : (execOp a.eval o).run P w = .ok (.enter g (xs.map a.eval ++ us)) w := by
    simp [execOp, ho, resolve, e1, Deferred.ofValue, invoke, hp.enter]
  unfold Oper.wp
  rw [hrun]
  simp only [Oper.upon]
  have hA := args_repC (O := owned X h) (w := w) (a := a) (avs := xs.toList.map (evalT f)) hrx (SubL.refl _)
  have hB : RepC (owned X h) w (xs.toList.map (evalT f) ++ cs) (fun j => ((xs.map a.eval ++ us).toList)[j]?) := by
    rw [Array.toList_append, Array.toList_map]
    refine RepC.append (by simp) hA ?_
    have e : (fun j => us.toList[j]?) = (fun j => us[j]?) := funext fun j => Array.getElem?_toList
    rw [e]; exact e3
  obtain ⟨h1, h2⟩ := H w0 w _ env (by simp [e2]) hB
  refine (hp.calls (fun _ => False) w (xs.map a.eval ++ us) (fun _ h => h.elim) (by rw [← Array.length_toList]; exact h1) ?_).mono ?_
  · have e : (fun j => (xs.map a.eval ++ us)[j]?) = (fun j => (xs.map a.eval ++ us).toList[j]?) := funext fun j => by rw [Array.getElem?_toList]
    rw [e]; exact h2
  · rintro e w' ⟨r, rfl, h3, h4⟩
    exact hk r w' h4 ((AV.rep_val av hsc _).2 ((AV.rep_val av hsc _).1 h3))
end
end Go.Proofs.Ytpehmadeklaebaa
