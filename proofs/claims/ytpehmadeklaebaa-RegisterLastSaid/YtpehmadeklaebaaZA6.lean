/-
  A6
-/
import Derived.Test.YtpehmadeklaebaaZA5
namespace Go.Proofs.Ytpehmadeklaebaa
open Go Go.RowKit
set_option linter.unusedVariables false
set_option linter.unusedSimpArgs false

/-- Whatever means a means b, too. -/
def Sub (a b : AV) : Prop := ∀ (O : Nat → Prop) (w : World) (v : Value), Rep O w a v → Rep O w b v
theorem Sub.refl {a : AV} : Sub a a := fun _ _ _ h => h
theorem Sub.of_eq {a b : AV} (h : a = b) : Sub a b := h ▸ Sub.refl
theorem Sub.trans {a b c : AV} (h : Sub a b) (k : Sub b c) : Sub a c := fun O w v x => k O w v (h O w v x)
theorem Sub.any {a : AV} : Sub a .any := fun _ _ _ _ => by simp only [Rep]
theorem Sub.nil_ {k : Nat} : Sub (.x (.slice none 0 0)) (.sl k 0 []) := fun O w v h => by
  rw [rep_x] at h; subst h
  simp only [Rep]
  exact ⟨by simp, none, 0, rfl, Nat.le_refl _, by omega, .inl (by simp)⟩
def SubL : List AV → List AV → Prop
  | [], [] => True
  | a :: xs, b :: bs => Sub a b ∧ SubL xs bs
  | _, _ => False
theorem SubL.refl : ∀ (l : List AV), SubL l l
  | [] => trivial
  | _ :: l => ⟨Sub.refl, SubL.refl l⟩
theorem SubL.of_eq {a b : List AV} (h : a = b) : SubL a b := h ▸ SubL.refl a
theorem SubL.len : ∀ {xs bs : List AV}, SubL xs bs → xs.length = bs.length
  | [], [], _ => rfl
  | _ :: _, _ :: _, h => by simp [SubL.len h.2]
theorem SubL.repC {O : Nat → Prop} {w : World} : ∀ {xs bs : List AV} {f : Nat → Option Value}, SubL xs bs → RepC O w xs f → RepC O w bs f
  | [], [], _, _, _ => by simp [RepC]
  | a :: xs, b :: bs, f, h, k => by
    simp only [RepC] at k ⊢
    obtain ⟨⟨u, hu, hr⟩, k2⟩ := k
    exact ⟨⟨u, hu, h.1 O w u hr⟩, SubL.repC h.2 k2⟩
theorem Sub.agg {xs bs : List AV} (h : SubL xs bs) : Sub (.agg xs) (.agg bs) := fun O w v k => by
  simp only [Rep] at k ⊢
  obtain ⟨us, h1, h2, h3⟩ := k
  exact ⟨us, h1, h2.trans h.len, h.repC h3⟩

/-- A function gives a value that means av, of arguments that mean avs; and writes nothing that was there. -/
structure PFn (P : Program) (K : Prop) (g : FuncId) (avs : List AV) (av : AV) : Prop where
  enter : ∀ (args : Array Value) (w : World), (callFunc g args).run P w = .ok (.enter g args) w
  calls : ∀ (O : Nat → Prop) (w : World) (args : Array Value), (∀ b, O b → b < w.heap.size) → args.size = avs.length → RepC O w avs (fun j => args[j]?) →
    Calls P g args w fun e w' => ∃ r, e = .returned r ∧ Rep O w' av r ∧ Bl K w w'

theorem PFn.sub {P : Program} {K : Prop} {g : FuncId} {avs : List AV} {av av' : AV} (h : PFn P K g avs av) (hs : Sub av av') : PFn P K g avs av' :=
  ⟨h.enter, fun O w args hO hl hr => (h.calls O w args hO hl hr).mono fun e w' ⟨r, h1, h2, h3⟩ => ⟨r, h1, hs _ _ _ h2, h3⟩⟩

theorem enter_of {P : Program} {g : FuncId} {fn : Func} (hf : P.funcs[g]? = some fn) (hn : (fn.name == "runtime.NumGoroutine") = false) (hb : fn.body.isNone = false) (args : Array Value) (w : World) : (callFunc g args).run P w = .ok (.enter g args) w := by
  have hn' : fn.name ≠ "runtime.NumGoroutine" := by simpa using hn
  have hb' : fn.body ≠ none := by intro e; rw [e] at hb; cases hb
  simp [callFunc, hf, hn', hb']

section
variable {P : Program} {K : Prop} {N : Nat} {X : Nat → Prop} {h : List HObj} {f : Nat → AV} {o : Oper}

theorem args_repC {O : Nat → Prop} {w : World} {a : Act} : ∀ {l : List Operand} {avs : List AV}, (∀ x ∈ l, Rep O w (evalT f x) (a.eval x)) → SubL (l.map (evalT f)) avs → RepC O w avs (fun j => (l.map a.eval)[j]?)
  | [], [], _, _ => by simp [RepC]
  | [], _ :: _, _, hs => hs.elim
  | _ :: _, [], _, hs => hs.elim
  | x :: l, b :: bs, hr, hs => by
    simp only [RepC]
    refine ⟨⟨a.eval x, rfl, hs.1 _ _ _ (hr x (by simp))⟩, ?_⟩
    exact args_repC (fun y hy => hr y (by simp [hy])) hs.2

theorem p_call {g : FuncId} {xs : Array Operand} {ts : Array TypeId} {avs : List AV} {av : AV} (ho : o.op = .call { callee := .value (.func g), args := xs, argTypes := ts }) (hp : PFn P K g avs av) (hs : SubL (xs.toList.map (evalT f)) avs) :
    PureOp P K N X h f o av := by
  intro a w w0 hK env hsz hr next Q hk
  have hr' : ∀ x ∈ xs.toList, Rep (owned X h) w (evalT f x) (a.eval x) := fun x hx => by
    have hm : x ∈ o.op.operands.toList := by rw [ho]; simp [Op.operands, Call.operands]; exact .inr (by simpa using hx)
    cases x with
    | tmp t => exact hr t (opRds_mem hm)
    | const v => simp only [evalT, Rep, Act.eval]
    | global g => simp only [evalT, Rep, Act.eval]
    | func g => simp only [evalT, Rep, Act.eval]
  have hrun : (execOp a.eval o).run P w = .ok (.enter g (xs.map a.eval)) w := by
    simp [execOp, ho, resolve, Act.eval, Deferred.ofValue, invoke, hp.enter]
  unfold Oper.wp
  rw [hrun]
  simp only [Oper.upon]
  have hl : (xs.map a.eval).size = avs.length := by rw [← hs.len]; simp
  have hR := args_repC (O := owned X h) (w := w) (a := a) hr' hs
  have e : (fun j => (xs.map a.eval)[j]?) = (fun j => (xs.toList.map a.eval)[j]?) := funext fun j => by rw [← Array.getElem?_toList, Array.toList_map]
  refine (hp.calls (owned X h) w (xs.map a.eval) (fun b hb => owned_lt env hb) hl (by rw [e]; exact hR)).mono ?_
  rintro e w' ⟨r, rfl, h2, h3⟩
  exact hk r w' h3 h2

end

section
variable {P : Program} {K : Prop} {N : Nat} {X : Nat → Prop} {h : List HObj} {f : Nat → AV} {o : Oper}
theorem p_makeFn {g : FuncId} {first captured : Array Operand} {cs : List AV} (ho : o.op = .makeFunc (.func g) first captured) (h0 : first = #[]) (hc : SubL (captured.toList.map (evalT f)) cs) : PureOp P K N X h f o (.fn g cs) := pure_run fun a w w0 env H => by
  rw [ho] at H
  subst h0
  refine ⟨.func (.func g) #[] (captured.map a.eval), by simp [execOp, ho, Instr.makeFunc], ?_⟩
  simp only [Rep]
  refine ⟨_, rfl, by rw [← hc.len]; simp, ?_⟩
  have e : (fun j => (captured.map a.eval)[j]?) = (fun j => (captured.toList.map a.eval)[j]?) := funext fun j => by rw [← Array.getElem?_toList, Array.toList_map]
  rw [e]
  exact args_repC (fun x hx => H x (by simp [Op.operands]; simpa using hx)) hc
/-- A call of a function value. -/
theorem p_callf {g : FuncId} {x : Operand} {cs : List AV} {xs : Array Operand} {ts : Array TypeId} {avs : List AV} {av : AV} (ho : o.op = .call { callee := .value x, args := xs, argTypes := ts }) (hx : evalT f x = .fn g cs) (hp : PFn P K g avs av) (hs : SubL (xs.toList.map (evalT f) ++ cs) avs) :
    PureOp P K N X h f o av := by
  intro a w w0 hK env hsz hr next Q hk
  have all : ∀ x ∈ o.op.operands.toList, Rep (owned X h) w (evalT f x) (a.eval x) := fun x hx => by
    cases x with
    | tmp t => exact hr t (opRds_mem hx)
    | const v => simp only [evalT, Rep, Act.eval]
    | global g => simp only [evalT, Rep, Act.eval]
    | func g => simp only [evalT, Rep, Act.eval]
  rw [ho] at all
  have h0 := all x (by simp [Op.operands, Call.operands])
  rw [hx] at h0
  simp only [Rep] at h0
  obtain ⟨us, h0, h01, h02⟩ := h0
  have hr' : ∀ x ∈ xs.toList, Rep (owned X h) w (evalT f x) (a.eval x) := fun y hy => all y (by simp [Op.operands, Call.operands]; exact .inr (by simpa using hy))
  have hrun : (execOp a.eval o).run P w = .ok (.enter g (xs.map a.eval ++ us)) w := by
    simp [execOp, ho, resolve, h0, Deferred.ofValue, invoke, hp.enter]
  unfold Oper.wp
  rw [hrun]
  simp only [Oper.upon]
  have hl : (xs.map a.eval ++ us).size = avs.length := by rw [← hs.len]; simp [h01]
  have hR : RepC (owned X h) w avs (fun j => (xs.toList.map a.eval ++ us.toList)[j]?) := by
    refine hs.repC (RepC.mk fun j c hj => ?_)
    rw [List.getElem?_append] at hj ⊢
    simp only [List.length_map] at hj ⊢
    split at hj
    · rename_i hlt
      rw [if_pos hlt]
      rw [List.getElem?_map, Option.map_eq_some_iff] at hj
      obtain ⟨y, hy, rfl⟩ := hj
      exact ⟨a.eval y, by simp [List.getElem?_map, hy], hr' y (List.mem_of_getElem? hy)⟩
    · rename_i hlt
      rw [if_neg hlt]
      obtain ⟨u, hu, hru⟩ := h02.at_ _ c hj
      exact ⟨u, Array.getElem?_toList.trans hu, hru⟩
  have e : (fun j => (xs.map a.eval ++ us)[j]?) = (fun j => (xs.toList.map a.eval ++ us.toList)[j]?) := funext fun j => by
    rw [← Array.getElem?_toList, Array.toList_append, Array.toList_map]
  refine (hp.calls (owned X h) w _ (fun b hb => owned_lt env hb) hl (by rw [e]; exact hR)).mono ?_
  rintro e w' ⟨r, rfl, h2, h3⟩
  exact hk r w' h3 h2
end

/-- What a value that the call may have made means to its caller. -/
def Gives (X : Nat → Prop) (h : List HObj) (a b : AV) : Prop := ∀ (w0 : Orig) (w : World) (v : Value), Env X w0 h w → Rep (owned X h) w a v → Rep X w b v
theorem gives_sub {X : Nat → Prop} {h : List HObj} {a b : AV} (hs : Sub a b) : Gives X h a b := fun w0 w v env hr => Rep.mono (Kept.refl _ _) (fun b _ hb => .inl hb) _ _ (hs _ _ _ hr)
theorem gives_refl {X : Nat → Prop} {h : List HObj} {a : AV} : Gives X h a a := gives_sub Sub.refl
theorem Gives.sub {X : Nat → Prop} {h : List HObj} {a b c : AV} (hg : Gives X h a b) (hs : Sub b c) : Gives X h a c := fun w0 w v env hr => hs _ _ _ (hg w0 w v env hr)
theorem RepC.giv {X : Nat → Prop} {h : List HObj} {w : World} {cs : List AV} {g : Nat → Option Value} (hr : RepC (owned X h) w cs g) : RepC X w cs g := RepC.mono (Kept.refl _ _) (fun b _ hb => .inl hb) _ _ hr
theorem gives_row {X : Nat → Prop} {h : List HObj} {v : Value} {e : TypeId} {k n : Nat} {cs : List AV} (hm : HObj.row v e k n cs ∈ h) : Gives X h (.x v) (.sl k n cs) := fun w0 w u env hr => by
  rw [rep_x] at hr; subst hr
  obtain ⟨vs, h1, h2, h3⟩ := env.objs _ hm
  simp only [Rep]
  refine ⟨by rw [← h2]; exact h1.1, ?_⟩
  rcases h1.2 with ⟨rfl, rfl⟩ | ⟨g, cap, cur, rfl, hb, hh, hn, hc, hs, ht⟩
  · exact ⟨none, 0, rfl, Nat.le_refl _, by omega, .inl (by simp)⟩
  · simp only [maxLen] at hc
    refine ⟨_, cap, rfl, hn, hc, .inr ⟨_, rfl, ?_, ?_, ?_⟩⟩
    · exact (Array.getElem?_eq_some_iff.1 hh).1
    · intro hx
      have h5 := env.ext _ hx
      have h6 := env.new _ hm g rfl
      simp only at h5
      rcases h6 with h6 | h6
      · omega
      · exact h5.2 h6
    · have e : RepC X w cs (fun j => vs[j]?) := h3.giv
      refine RepC.mk fun j c hj => ?_
      obtain ⟨u, hu, hr⟩ := e.at_ j c hj
      exact ⟨u, h1.cells (g := g) rfl j u hu, hr⟩
/-- A block that the call made, and writes no more, is one that can be read. -/
theorem gives_ip {X : Nat → Prop} {h : List HObj} {g : Nat} {T : TypeId} {cs : List AV} (hm : HObj.cells g T cs ∈ h) : Gives X h (.x (.pointer (some ⟨g, 0, none⟩))) (.ip cs) := fun w0 w u env hr => by
  rw [rep_x] at hr; subst hr
  have hc := (own_cells env hm 0).giv
  simp only [Rep]
  refine ⟨_, rfl, env.lt _ hm g rfl, ?_, by simpa using hc⟩
  intro hx
  have h5 := env.ext _ hx
  have h6 := env.new _ hm g rfl
  simp only at h5
  rcases h6 with h6 | h6
  · omega
  · exact h5.2 h6
def GivesL (X : Nat → Prop) (h : List HObj) : List AV → List AV → Prop
  | [], [] => True
  | a :: xs, b :: bs => Gives X h a b ∧ GivesL X h xs bs
  | _, _ => False
theorem GivesL.refl {X : Nat → Prop} {h : List HObj} : ∀ (l : List AV), GivesL X h l l
  | [] => trivial
  | _ :: l => ⟨gives_refl, GivesL.refl l⟩
theorem GivesL.append {X : Nat → Prop} {h : List HObj} : ∀ {a b c d : List AV}, GivesL X h a b → GivesL X h c d → GivesL X h (a ++ c) (b ++ d)
  | [], [], _, _, _, k => k
  | _ :: _, _ :: _, _, _, g, k => ⟨g.1, GivesL.append g.2 k⟩
theorem GivesL.len {X : Nat → Prop} {h : List HObj} : ∀ {xs bs : List AV}, GivesL X h xs bs → xs.length = bs.length
  | [], [], _ => rfl
  | _ :: _, _ :: _, h => by simp [GivesL.len h.2]
theorem GivesL.repC {X : Nat → Prop} {h : List HObj} {w0 : Orig} {w : World} (env : Env X w0 h w) : ∀ {xs bs : List AV} {f : Nat → Option Value}, GivesL X h xs bs → RepC (owned X h) w xs f → RepC X w bs f
  | [], [], _, _, _ => by simp [RepC]
  | a :: xs, b :: bs, f, g, k => by
    simp only [RepC] at k ⊢
    obtain ⟨⟨u, hu, hr⟩, k2⟩ := k
    exact ⟨⟨u, hu, g.1 w0 w u env hr⟩, GivesL.repC env g.2 k2⟩
def rvRun (tmps : Array Value) : ResultVar → Sem Value
  | .tmp t => pure (tmps.getD t undef)
  | .cell p T => do loadVar T (← asAddr (tmps.getD p undef))
theorem results_eq (fn : Func) (tmps : Array Value) : results fn tmps = (do
    let vs ← fn.results.mapM (rvRun tmps)
    pure (if h : vs.size = 1 then vs[0] else .tuple vs)) := by
  unfold results
  congr 1

/-- One result. -/
def RG (P : Program) (N : Nat) (X : Nat → Prop) (s : AS) (rv : ResultVar) (av : AV) : Prop := ∀ (w0 : Orig) (w : World) (a : Act), St N X w0 s a w →
  ∃ v, (rvRun a.tmps rv).run P w = .ok v w ∧ Rep X w av v
theorem rg_tmp {P : Program} {N : Nat} {X : Nat → Prop} {s : AS} {t : Nat} {av : AV} (hg : Gives X s.h (s.t t) av) : RG P N X s (.tmp t) av := fun w0 w a hs =>
  ⟨_, rfl, hg w0 w _ hs.env (hs.slots.slot t)⟩
theorem rg_cell {P : Program} {N : Nat} {X : Nat → Prop} {s : AS} {t g : Nat} {T T' : TypeId} {cs : List AV} {b : Bool} {k : Nat} {av av' : AV} (hx : s.t t = .x (.pointer (some ⟨g, 0, none⟩))) (hm : HObj.cells g T' cs ∈ s.h) (ht : tyOf P T = some (b, k))
    (hav : (b = true ∧ k ≤ cs.length ∧ av = .agg (cs.take k)) ∨ (b = false ∧ cs[0]? = some av)) (hg : Gives X s.h av av') : RG P N X s (.cell t T) av' := fun w0 w a hs => by
  have h1 := hs.slots.slot t
  rw [hx, rep_x] at h1
  have hc := own_cells hs.env hm 0
  obtain ⟨v, hv, hr⟩ := run_load_c ht hc (by simpa using hav)
  exact ⟨v, by simp only [rvRun, h1, asAddr, Sem.run_bind, Sem.run_pure, Result.andThen_ok, hv], hg w0 w v hs.env hr⟩

/-- All results. -/
def RGs (P : Program) (N : Nat) (X : Nat → Prop) (s : AS) (rs : Array ResultVar) (av : AV) : Prop := ∀ (w0 : Orig) (w : World) (a : Act), St N X w0 s a w → ∀ fn : Func, fn.results = rs → ∃ v, (results fn a.tmps).run P w = .ok v w ∧ Rep X w av v
theorem rgs0 {P : Program} {N : Nat} {X : Nat → Prop} {s : AS} : RGs P N X s #[] (.tup []) := fun w0 w a hs fn hf => ⟨.tuple #[], by simp [results, hf], by simp only [Rep]; exact ⟨#[], rfl, rfl, by simp [RepC]⟩⟩
theorem rgs1 {P : Program} {N : Nat} {X : Nat → Prop} {s : AS} {r1 : ResultVar} {av : AV} (h1 : RG P N X s r1 av) : RGs P N X s #[r1] av := fun w0 w a hs fn hf => by
  obtain ⟨v, hv, hr⟩ := h1 w0 w a hs
  refine ⟨v, ?_, hr⟩
  rw [results_eq, hf]; simp [hv]
theorem rgs2 {P : Program} {N : Nat} {X : Nat → Prop} {s : AS} {r1 r2 : ResultVar} {a1 a2 : AV} (h1 : RG P N X s r1 a1) (h2 : RG P N X s r2 a2) : RGs P N X s #[r1, r2] (.tup [a1, a2]) := fun w0 w a hs fn hf => by
  obtain ⟨v, hv, hr⟩ := h1 w0 w a hs
  obtain ⟨u, hu, hq⟩ := h2 w0 w a hs
  refine ⟨.tuple #[v, u], ?_, ?_⟩
  · rw [results_eq, hf]; simp [hv, hu]
  · simp only [Rep]
    exact ⟨_, rfl, rfl, by simp only [RepC]; exact ⟨⟨v, rfl, hr⟩, ⟨u, rfl, hq⟩, trivial⟩⟩
theorem rgs3 {P : Program} {N : Nat} {X : Nat → Prop} {s : AS} {r1 r2 r3 : ResultVar} {a1 a2 a3 : AV} (h1 : RG P N X s r1 a1) (h2 : RG P N X s r2 a2) (h3 : RG P N X s r3 a3) : RGs P N X s #[r1, r2, r3] (.tup [a1, a2, a3]) := fun w0 w a hs fn hf => by
  obtain ⟨v, hv, hr⟩ := h1 w0 w a hs
  obtain ⟨u, hu, hq⟩ := h2 w0 w a hs
  obtain ⟨x, hx, hy⟩ := h3 w0 w a hs
  refine ⟨.tuple #[v, u, x], ?_, ?_⟩
  · rw [results_eq, hf]; simp [hv, hu, hx]
  · simp only [Rep]
    exact ⟨_, rfl, rfl, by simp only [RepC]; exact ⟨⟨v, rfl, hr⟩, ⟨u, rfl, hq⟩, ⟨x, rfl, hy⟩, trivial⟩⟩

/-- The walk's end. -/
def Ends (P : Program) (C : Cx) (rs : Array ResultVar) (av : AV) : Exit → AS → Prop
  | .normal, s => RGs P C.N C.X s rs av
  | .ret, s => RGs P C.N C.X s rs av
  | _, _ => False

def args0 (avs : List AV) : Nat → AV := fun t => (avs[t]?).getD .any

theorem pfn_of {P : Program} {K : Prop} {g : FuncId} {fn : Func} {c : Code} {avs : List AV} {av : AV} (hf : P.funcs[g]? = some fn) (hb : fn.body = some c) (hn : (fn.name == "runtime.NumGoroutine") = false) (N : Nat) (hN : fn.ntmps = N) (rs : Array ResultVar) (hrs : fn.results = rs) (hl : avs.length ≤ N)
    (H : ∀ (X : Nat → Prop) (w0 : World), AW P ⟨N, X, ⟨w0, fun _ => False, K⟩⟩ c (Ends P ⟨N, X, ⟨w0, fun _ => False, K⟩⟩ rs av) ⟨args0 avs, []⟩) : PFn P K g avs av := by
  refine ⟨enter_of hf hn (by rw [hb]; rfl), fun O w args hO hsz hr => ?_⟩
  refine calls_of_wp hf hb ?_
  have hst : (Cx.mk N O ⟨w, fun _ => False, K⟩).St ⟨args0 avs, []⟩ { tmps := args ++ Array.replicate (fn.ntmps - args.size) undef, defers := [] } w := by
    refine ⟨⟨Chg.refl _ _ _, fun o ho => by simp at ho, fun o ho => by simp at ho, fun o ho => by simp at ho, fun b hb => ⟨hO b hb, fun h => h⟩, fun i j o p b hi => by simp at hi⟩, rfl, ?_, fun t => ?_⟩
    · simp; omega
    · show Rep _ _ ((avs[t]?).getD .any) _
      cases hv : avs[t]? with
      | none => simp only [Option.getD_none, Rep]
      | some av =>
        obtain ⟨u, hu, hru⟩ := hr.at_ t av hv
        have hu' : args[t]? = some u := hu
        have hlt : t < args.size := (Array.getElem?_eq_some_iff.1 hu').1
        have e : (args ++ Array.replicate (fn.ntmps - args.size) undef).getD t undef = u := by
          rw [Array.getD_eq_getD_getElem?, Array.getElem?_append_left hlt, hu']; rfl
        simp only [Option.getD_some]
        show Rep _ _ _ ((args ++ Array.replicate (fn.ntmps - args.size) undef).getD t undef)
        rw [e]
        exact Rep.mono (Kept.refl _ _) (fun b _ hb => by rcases hb with hb | ⟨o, ho, _⟩; exact hb; simp at ho) _ _ hru
  refine wp_mono (H O w _ w hst) fun e a w' ⟨s, hs, hq⟩ => ?_
  cases e with
  | normal =>
    obtain ⟨v, hv, hr⟩ := hq ⟨w, fun _ => False, K⟩ w' a hs fn hrs
    exact ⟨hs.slots.defers, v, hv, v, rfl, hr, hs.env.below.none⟩
  | ret =>
    obtain ⟨v, hv, hr⟩ := hq ⟨w, fun _ => False, K⟩ w' a hs fn hrs
    exact ⟨hs.slots.defers, v, hv, v, rfl, hr, hs.env.below.none⟩
  | _ => exact hq.elim
end Go.Proofs.Ytpehmadeklaebaa
