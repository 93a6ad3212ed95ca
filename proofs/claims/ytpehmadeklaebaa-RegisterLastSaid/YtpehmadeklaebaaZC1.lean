/-
  B1 C1
-/
import Derived.Test.YtpehmadeklaebaaZA9
namespace Go.Proofs.Ytpehmadeklaebaa
open Go Go.RowKit
set_option linter.unusedVariables false
set_option linter.unusedSimpArgs false

structure W (P : Program) (C : Cx) (c : Code) (Q : Exit → AS → Prop) (s : AS) : Prop where
  run : AW P C c Q s
/-- A list of operations: in order (none), or the first ones of a region that draws (some tail). -/
structure WL (m : Option (List Oper)) (P : Program) (C : Cx) (ops : Array Oper) (Q : Exit → AS → Prop) (l : List Oper) (s : AS) : Prop where
  run : match m with | none => AWL P C ops Q l s | some tail => Chain P C.w0.K C.N C.X s.h ops l s.t fun f => AWL P C ops Q tail ⟨f, s.h⟩

section
variable {P : Program} {C : Cx} {Q : Exit → AS → Prop} {f : Nat → AV} {h : List HObj} {s : AS} {m : Option (List Oper)} {ops : Array Oper} {o : Oper} {rest : List Oper}

theorem putT_upd {N : Nat} {f : Nat → AV} {d : Nat} {av : AV} (hN : Nat.blt d N = true) : putT N f (some d) av = upd f d av := by simp [putT, hN]

/-- An element of a slice of things, and what is read there. -/
theorem drop_flatMap {α : Type} {enc : α → List AV} {k : Nat} (hk : ∀ x, (enc x).length = k) : ∀ {l : List α} {i : Nat} {x : α}, l[i]? = some x → (l.flatMap enc).drop (i * k) = enc x ++ (l.drop (i + 1)).flatMap enc
  | [], i, x, h => by simp at h
  | y :: l, 0, x, h => by
    obtain rfl : y = x := by simpa using h
    simp
  | y :: l, i + 1, x, h => by
    have := drop_flatMap hk (l := l) (i := i) (x := x) (by simpa using h)
    rw [List.flatMap_cons, show (i + 1) * k = (enc y).length + i * k by rw [hk, Nat.add_mul, Nat.one_mul, Nat.add_comm], List.drop_append, List.drop_eq_nil_of_le (by omega), List.nil_append, Nat.add_sub_cancel_left, this]
    simp
end

end Go.Proofs.Ytpehmadeklaebaa

namespace Go.Proofs.Ytpehmadeklaebaa
open Go Go.RowKit
set_option linter.unusedVariables false
set_option linter.unusedSimpArgs false

mutual
def AV.ex : AV → Bool
  | .x _ => true
  | .agg cs => AV.exL cs
  | .tup cs => AV.exL cs
  | _ => false
def AV.exL : List AV → Bool
  | [] => true
  | c :: cs => c.ex && AV.exL cs
end
mutual
def AV.val : AV → Value
  | .x v => v
  | .agg cs => .agg (AV.vals cs).toArray
  | .tup cs => .tuple (AV.vals cs).toArray
  | _ => undef
def AV.vals : List AV → List Value
  | [] => []
  | c :: cs => c.val :: AV.vals cs
end
mutual
theorem AV.rep_val {O : Nat → Prop} {w : World} : ∀ (a : AV), a.ex = true → ∀ v, Rep O w a v ↔ v = a.val
  | .x u, _, v => by simp only [Rep, AV.val]
  | .agg cs, h, v => by
    simp only [AV.ex] at h
    simp only [Rep, AV.val]
    constructor
    · rintro ⟨us, rfl, h1, h2⟩
      have := (AV.repC_vals_ cs h us.toList (by simpa using h1)).1 (by
        have e : (fun j => us.toList[j]?) = (fun j => us[j]?) := funext fun j => Array.getElem?_toList
        rw [e]; exact h2)
      rw [← this]
    · rintro rfl
      refine ⟨_, rfl, ?_, ?_⟩
      · simp [AV.vals_len cs]
      · have := (AV.repC_vals_ (O := O) (w := w) cs h (AV.vals cs) (AV.vals_len cs)).2 rfl
        have e : (fun j => (AV.vals cs).toArray[j]?) = (fun j => (AV.vals cs)[j]?) := funext fun j => List.getElem?_toArray
        rw [e]; exact this
  | .tup cs, h, v => by
    simp only [AV.ex] at h
    simp only [Rep, AV.val]
    constructor
    · rintro ⟨us, rfl, h1, h2⟩
      have := (AV.repC_vals_ cs h us.toList (by simpa using h1)).1 (by
        have e : (fun j => us.toList[j]?) = (fun j => us[j]?) := funext fun j => Array.getElem?_toList
        rw [e]; exact h2)
      rw [← this]
    · rintro rfl
      refine ⟨_, rfl, ?_, ?_⟩
      · simp [AV.vals_len cs]
      · have := (AV.repC_vals_ (O := O) (w := w) cs h (AV.vals cs) (AV.vals_len cs)).2 rfl
        have e : (fun j => (AV.vals cs).toArray[j]?) = (fun j => (AV.vals cs)[j]?) := funext fun j => List.getElem?_toArray
        rw [e]; exact this
  | .sl _ _ _, h, _ => by cases h
  | .ip _, h, _ => by cases h
  | .fn _ _, h, _ => by cases h
  | .any, h, _ => by cases h
theorem AV.vals_len : ∀ (cs : List AV), (AV.vals cs).length = cs.length
  | [] => rfl
  | c :: cs => by simp only [AV.vals, List.length_cons, AV.vals_len cs]
theorem AV.repC_vals_ {O : Nat → Prop} {w : World} : ∀ (cs : List AV), AV.exL cs = true → ∀ us : List Value, us.length = cs.length → (RepC O w cs (fun j => us[j]?) ↔ us = AV.vals cs)
  | [], _, us, hl => by
    have : us = [] := List.eq_nil_of_length_eq_zero (by simpa using hl)
    subst this
    simp [RepC, AV.vals]
  | c :: cs, h, us, hl => by
    simp only [AV.exL, Bool.and_eq_true] at h
    match us, hl with
    | u :: us, hl =>
      have ih := AV.repC_vals_ (O := O) (w := w) cs h.2 us (by simpa using hl)
      have i1 := AV.rep_val (O := O) (w := w) c h.1 u
      simp only [RepC, AV.vals, List.cons.injEq]
      constructor
      · rintro ⟨⟨u', hu, hr⟩, h2⟩
        obtain rfl : u = u' := by simpa using hu
        exact ⟨i1.1 hr, ih.1 (by simpa using h2)⟩
      · rintro ⟨h1, h2⟩
        exact ⟨⟨u, rfl, i1.2 h1⟩, by simpa using ih.2 h2⟩
end

/-- A function that may write the blocks that it is handed (h), and gives back others (as R says). -/
structure MFn (P : Program) (K : Prop) (g : FuncId) (avs : List AV) (h : List HObj) (R : AV → List HObj → Prop) : Prop where
  enter : ∀ (args : Array Value) (w : World), (callFunc g args).run P w = .ok (.enter g args) w
  calls : ∀ (O : Nat → Prop) (w : World) (args : Array Value), Env O ⟨w, fun b => ∃ o ∈ h, o.blk = some b, K⟩ h w → args.size = avs.length → RepC (owned O h) w avs (fun j => args[j]?) →
    Calls P g args w fun e w' => ∃ r av h', e = .returned r ∧ R av h' ∧ Env O ⟨w, fun b => ∃ o ∈ h, o.blk = some b, K⟩ h' w' ∧ Rep (owned O h') w' av r

/-- One result of such a function. -/
def RGm (P : Program) (N : Nat) (X : Nat → Prop) (s : AS) (h' : List HObj) (rs : Array ResultVar) (av : AV) : Prop := ∀ (w0 : Orig) (w : World) (a : Act), St N X w0 s a w → ∀ fn : Func, fn.results = rs → ∃ v, (results fn a.tmps).run P w = .ok v w ∧ Rep (owned X h') w av v
def EndsM (P : Program) (C : Cx) (rs : Array ResultVar) (R : AV → List HObj → Prop) : Exit → AS → Prop
  | .normal, s => ∃ av h' r, s.h = h' ++ r ∧ R av h' ∧ RGm P C.N C.X s h' rs av
  | .ret, s => ∃ av h' r, s.h = h' ++ r ∧ R av h' ∧ RGm P C.N C.X s h' rs av
  | _, _ => False
theorem rgm_tmp {P : Program} {N : Nat} {X : Nat → Prop} {s : AS} {t : Nat} {av : AV} {h' r : List HObj} (hh : s.h = h' ++ r) (hg : Sub (s.t t) av) : RGm P N X s h' #[.tmp t] av := fun w0 w a hs fn hf =>
  ⟨a.tmps.getD t undef, by rw [results_eq, hf]; simp [rvRun], Rep.mono (Kept.refl _ _) (fun b _ hb => by rw [hh]; exact owned_pre hb) _ _ (hg _ _ _ (hs.slots.slot t))⟩
theorem mfn {P : Program} {K : Prop} {g : FuncId} {fn : Func} {c : Code} {avs : List AV} {h : List HObj} {R : AV → List HObj → Prop} (hf : P.funcs[g]? = some fn) (hb : fn.body = some c) (hn : (fn.name == "runtime.NumGoroutine") = false) (N : Nat) (hN : fn.ntmps = N) (rs : Array ResultVar) (hrs : fn.results = rs) (hl : avs.length ≤ N)
    (H : ∀ (X : Nat → Prop) (w0 : World), W P ⟨N, X, ⟨w0, fun b => ∃ o ∈ h, o.blk = some b, K⟩⟩ c (EndsM P ⟨N, X, ⟨w0, fun b => ∃ o ∈ h, o.blk = some b, K⟩⟩ rs R) ⟨args0 avs, h⟩) : MFn P K g avs h R := by
  refine ⟨enter_of hf hn (by rw [hb]; rfl), fun O w args env hsz hr => ?_⟩
  refine calls_of_wp hf hb ?_
  have hst : (Cx.mk N O ⟨w, fun b => ∃ o ∈ h, o.blk = some b, K⟩).St ⟨args0 avs, h⟩ { tmps := args ++ Array.replicate (fn.ntmps - args.size) undef, defers := [] } w := by
    refine ⟨env, rfl, ?_, fun t => ?_⟩
    · simp; omega
    · show Rep _ _ ((avs[t]?).getD .any) _
      cases hv : avs[t]? with
      | none => simp only [Option.getD_none, Rep]
      | some av =>
        obtain ⟨u, hu, hru⟩ := hr.at_ t av hv
        have hu' : args[t]? = some u := hu
        have hlt : t < args.size := (Array.getElem?_eq_some_iff.1 hu').1
        have e : (args ++ Array.replicate (fn.ntmps - args.size) undef).getD t undef = u := by
          rw [Array.getD_eq_getD_getElem?, Array.getElem?_append_left hlt, hu']; rfl
        simp only [Option.getD_some]
        show Rep _ _ _ ((args ++ Array.replicate (fn.ntmps - args.size) undef).getD t undef)
        rw [e]
        exact hru
  have fin : ∀ (s : AS) (a : Act) (w' : World), (Cx.mk N O ⟨w, fun b => ∃ o ∈ h, o.blk = some b, K⟩).St s a w' → (∃ av h' r, s.h = h' ++ r ∧ R av h' ∧ RGm P N O s h' rs av) →
      a.defers = [] ∧ ∃ v, (results fn a.tmps).run P w' = .ok v w' ∧ ∃ r av h', Ending.returned v = .returned r ∧ R av h' ∧ Env O ⟨w, fun b => ∃ o ∈ h, o.blk = some b, K⟩ h' w' ∧ Rep (owned O h') w' av r := by
    rintro s a w' hs ⟨av, h', r, h1, h2, h3⟩
    obtain ⟨v, hv, hr⟩ := h3 _ w' a hs fn hrs
    have env' := hs.env
    rw [h1] at env'
    exact ⟨hs.slots.defers, v, hv, v, av, h', rfl, h2, env'.pre, hr⟩
  refine wp_mono ((H O w).run _ w hst) fun e a w' ⟨s, hs, hq⟩ => ?_
  cases e with
  | normal => exact fin s a w' hs hq
  | ret => exact fin s a w' hs hq
  | _ => exact hq.elim

section
variable {P : Program} {C : Cx} {Q : Exit → AS → Prop} {f : Nat → AV} {h : List HObj} {ops : Array Oper} {o : Oper} {rest : List Oper}

end
end Go.Proofs.Ytpehmadeklaebaa
