/-
  E23
-/
import Derived.Test.YtpehmadeklaebaaZE22
namespace Go.Proofs.Ytpehmadeklaebaa
open Go Go.RowKit
set_option linter.unusedVariables false
section
variable {P : Program} {K : Prop} {eb : EB}
abbrev endM {a : Ty} (E : EC) (t : Nat) (e : TypeId) (res : List a.T → Prop) : ES → Prop := fun s => (resM s t e a fun l => .need (res l) .done).ok E noB noR
theorem emA1 (hb : EBok eb P K) {g : FuncId} {fn : Func} {co : Code} {a1 : AT} {pre : a1.T → Prop} {e : TypeId} {a : Ty} {res : a1.T → List a.T → Prop} (hf : P.funcs[g]? = some fn) (hbody : fn.body = some co) (hnm : (fn.name == "runtime.NumGoroutine") = false) (N : Nat) (hN : fn.ntmps = N) (rs : Array ResultVar) (hrs : fn.results = rs) (ip : Bool) (t : Nat) (ht : rs = #[.tmp t])
    (hl : (Nat.ble 1 N && Nat.ble 1 12 && drawGood (mkY eb N 0 [] rs ip) co) = true) (H : ∀ (E : EC), EYok (mkY eb N 0 [] rs ip) E → ∀ x, pre x → IW E noB (endM E t e (res x)) [.code co] ⟨[sl1 0 a1 x], []⟩) : MS.ok P K g (msA [a1] (fun x => pre x.1) e a (fun x => res x.1)) :=
  msA_ok fun x hx => by
    have h := emfn hb hf hbody hnm N hN rs hrs ip t ht (evs [a1] x) [] e a (res x.1) (by rw [evs_len]; exact hl) (fun E hE => by
      have := H E hE x.1 hx
      cases a1 <;> exact this) ⟨fun _ => 0, fun _ => undef⟩
    rw [evs_den] at h
    exact h
theorem emR0 (hb : EBok eb P K) {g : FuncId} {fn : Func} {co : Code} {e : TypeId} {a : Ty} {pre : List a.T → Prop} {res : List a.T → List a.T → Prop} (hf : P.funcs[g]? = some fn) (hbody : fn.body = some co) (hnm : (fn.name == "runtime.NumGoroutine") = false) (N : Nat) (hN : fn.ntmps = N) (rs : Array ResultVar) (hrs : fn.results = rs) (ip : Bool) (t : Nat) (ht : rs = #[.tmp t])
    (hl : (Nat.ble 1 N && Nat.ble 1 12 && drawGood (mkY eb N 0 [] rs ip) co) = true) (H : ∀ (E : EC), EYok (mkY eb N 0 [] rs ip) E → ∀ l, pre l → IW E noB (endM E t e (res l)) [.code co] ⟨[(0, .row 0)], [.row e a l]⟩) : MS.ok P K g (msR e a [] (fun l _ => pre l) (fun l _ => res l)) :=
  msR_ok fun v l x hx => emfn hb hf hbody hnm N hN rs hrs ip t ht [.row 0] [.row e a l] e a (res l) hl (fun E hE => H E hE l hx) ⟨fun _ => 0, fun _ => v⟩
end
end Go.Proofs.Ytpehmadeklaebaa
