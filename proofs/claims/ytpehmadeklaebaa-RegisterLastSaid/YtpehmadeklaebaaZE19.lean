/-
  E19
-/
import Derived.Test.YtpehmadeklaebaaZE18
namespace Go.Proofs.Ytpehmadeklaebaa
open Go Go.RowKit
set_option linter.unusedVariables false
set_option linter.unusedSimpArgs false

def noB : Nat → ES → Prop := fun _ _ => False
def noR : ES → Prop := fun _ => False
def argS : List Nat → (ts : List AT) → Args ts → List (Nat × EV)
  | i :: is, .v a :: l, (y, r) => (i, .td a y) :: argS is l r
  | i :: is, .p a :: l, (y, r) => (i, .lp a y []) :: argS is l r
  | i :: is, .f g :: l, (_, r) => (i, .val (.func (.func g) #[] #[])) :: argS is l r
  | _, _, _ => []
def ids : List Nat := [0, 1, 2, 3, 4, 5, 6, 7, 8, 9, 10, 11]
def argE : List Nat → List EV → List (Nat × EV)
  | i :: is, v :: l => (i, v) :: argE is l
  | _, _ => []
def mkY (b : EB) (N n0 : Nat) (ks : List Nat) (rs : Array ResultVar) (ip : Bool := false) : EY := { b with N := N, n0 := n0, ks := ks, rs := rs.toList, ip := ip }

theorem argE_slots (m : Nm) : ∀ (n i : Nat) (l : List EV), l.length ≤ n → ∀ t, slotsOf m (argE ((List.range n).map (i + ·)) l) t = if i ≤ t then ((EV.denL m l)[t - i]?).getD .any else .any
  | n, i, [], _, t => by
    have : slotsOf m (argE ((List.range n).map (i + ·)) []) t = .any := by cases (List.range n).map (i + ·) <;> rfl
    rw [this]; simp [EV.denL]
  | n + 1, i, v :: l, h, t => by
    have e : (List.range (n + 1)).map (i + ·) = i :: (List.range n).map (i + 1 + ·) := by
      rw [List.range_succ_eq_map]
      simp [Function.comp_def, Nat.add_assoc, Nat.add_comm 1]
    rw [e]
    simp only [argE, slotsOf, upd]
    have ih := argE_slots m n (i + 1) l (by simpa using h) t
    cases hc : Nat.beq t i with
    | true => obtain rfl := beqN hc; simp [EV.denL]
    | false =>
      have hne : t ≠ i := fun e => by subst e; simp at hc
      simp only [cond_false]
      rw [ih]
      by_cases h1 : i ≤ t
      · rw [if_pos h1, if_pos (by omega)]
        simp only [EV.denL]
        rw [show t - i = (t - (i + 1)) + 1 by omega, List.getElem?_cons_succ]
      · rw [if_neg h1, if_neg (by omega)]
theorem ids_eq : ids = (List.range 12).map (0 + ·) := by decide
theorem argE_args0 (m : Nm) (l : List EV) (h : l.length ≤ 12) : slotsOf m (argE ids l) = args0 (EV.denL m l) := by
  funext t
  rw [ids_eq, argE_slots m 12 0 l h t]
  simp [args0]
def evs : (ts : List AT) → Args ts → List EV
  | [], _ => []
  | .v a :: l, x => .td a x.1 :: evs l x.2
  | .p a :: l, x => .lp a x.1 [] :: evs l x.2
  | .f g :: l, x => .val (.func (.func g) #[] #[]) :: evs l x.2
theorem evs_len : ∀ (ts : List AT) (x : Args ts), (evs ts x).length = ts.length
  | [], _ => rfl
  | .v a :: l, x => by simp [evs, evs_len l]
  | .p a :: l, x => by simp [evs, evs_len l]
  | .f a :: l, x => by simp [evs, evs_len l]
theorem evs_den (m : Nm) : ∀ (ts : List AT) (x : Args ts), EV.denL m (evs ts x) = denA ts x
  | [], _ => rfl
  | .v a :: l, x => by simp only [evs, EV.denL, denA, evs_den m l, EV.den, AT.den]
  | .p a :: l, x => by simp only [evs, EV.denL, denA, evs_den m l, EV.den, AT.den, poff, List.drop_zero]
  | .f a :: l, x => by simp only [evs, EV.denL, denA, evs_den m l, EV.den, AT.den]
theorem argS_eq : ∀ (is : List Nat) (ts : List AT) (x : Args ts), argS is ts x = argE is (evs ts x)
  | [], [], _ => rfl
  | [], .v _ :: _, _ => rfl
  | [], .p _ :: _, _ => rfl
  | [], .f _ :: _, _ => rfl
  | _ :: _, [], _ => rfl
  | i :: is, .v a :: l, (y, r) => by simp only [argS, evs, argE, argS_eq is l]
  | i :: is, .p a :: l, (y, r) => by simp only [argS, evs, argE, argS_eq is l]
  | i :: is, .f a :: l, (y, r) => by simp only [argS, evs, argE, argS_eq is l]

section
variable {P : Program} {K : Prop} {b : EB}
theorem resP_ok {E : EC} {s : ES} (hX : EXok b.toEX E.P E.w0.K) {rs : Array ResultVar} {vs : List EV} (hn : rs.toList.length ≤ 3) (h : (resP b.toEX s rs.toList vs).ok E noB noR) (m m0 : Nm) : RGs E.P E.N E.X (s.den m) rs ((retE vs).den m0) := by
  obtain ⟨rl⟩ := rs
  simp only at h hn
  have free : ∀ v : EV, v.bw 0 = true → v.den m = v.den m0 := fun v hv => den_below (n := 0) ⟨fun _ h => by omega, fun _ h => by omega⟩ v hv
  match rl, vs, h with
  | [], [], _ => exact rgs0
  | [r1], [v1], h =>
    unfold resP at h
    obtain ⟨_, f1, g1⟩ := res1_ok hX h
    have := g1 m
    rw [free v1 f1] at this
    exact rgs1 this
  | [r1, r2], [v1, v2], h =>
    unfold resP at h
    obtain ⟨h, f1, g1⟩ := res1_ok hX h
    unfold resP at h
    obtain ⟨_, f2, g2⟩ := res1_ok hX h
    have k1 := g1 m
    have k2 := g2 m
    rw [free v1 f1] at k1
    rw [free v2 f2] at k2
    exact rgs2 k1 k2
  | [r1, r2, r3], [v1, v2, v3], h =>
    unfold resP at h
    obtain ⟨h, f1, g1⟩ := res1_ok hX h
    unfold resP at h
    obtain ⟨h, f2, g2⟩ := res1_ok hX h
    unfold resP at h
    obtain ⟨_, f3, g3⟩ := res1_ok hX h
    have k1 := g1 m
    have k2 := g2 m
    have k3 := g3 m
    rw [free v1 f1] at k1
    rw [free v2 f2] at k2
    rw [free v3 f3] at k3
    exact rgs3 k1 k2 k3
  | [], _ :: _, h => exact h.elim
  | [_], [], h => exact h.elim
  | [_], _ :: _ :: _, h => 
    unfold resP at h
    obtain ⟨h, _⟩ := res1_ok hX h
    exact h.elim
  | _ :: _ :: _, [], h => exact h.elim
  | _ :: _ :: _, [_], h =>
    unfold resP at h
    obtain ⟨h, _⟩ := res1_ok hX h
    exact h.elim
  | [_, _], _ :: _ :: _ :: _, h =>
    unfold resP at h
    obtain ⟨h, _⟩ := res1_ok hX h
    unfold resP at h
    obtain ⟨h, _⟩ := res1_ok hX h
    exact h.elim
  | _ :: _ :: _ :: _, [_, _], h =>
    unfold resP at h
    obtain ⟨h, _⟩ := res1_ok hX h
    unfold resP at h
    obtain ⟨h, _⟩ := res1_ok hX h
    exact h.elim
  | [_, _, _], _ :: _ :: _ :: _ :: _, h =>
    unfold resP at h
    obtain ⟨h, _⟩ := res1_ok hX h
    unfold resP at h
    obtain ⟨h, _⟩ := res1_ok hX h
    unfold resP at h
    obtain ⟨h, _⟩ := res1_ok hX h
    exact h.elim
  | _ :: _ :: _ :: _ :: _, _ :: _ :: _ :: _, h => simp at hn

/-- A function that writes nothing. -/
theorem efn (hb : EBok b P K) {g : FuncId} {fn : Func} {c : Code} (hf : P.funcs[g]? = some fn) (hbody : fn.body = some c) (hnm : (fn.name == "runtime.NumGoroutine") = false) (N : Nat) (hN : fn.ntmps = N) (rs : Array ResultVar) (hrs : fn.results = rs)
    (ts : List AT) (pre : Args ts → Prop) (res : Args ts → List EV) (hl : (Nat.ble ts.length N && Nat.ble ts.length 12 && Nat.ble rs.toList.length 3 && drawGood (mkY b N 0 [] rs) c) = true)
    (H : ∀ (E : EC), EYok (mkY b N 0 [] rs) E → ∀ x, pre x → IW E noB (fun s => (resP b.toEX s rs.toList (res x)).ok E noB noR) [.code c] ⟨argS ids ts x, []⟩) : FE.ok P K ⟨g, ts, pre, fun x => retE (res x), fun x K => K (pre x) (retE (res x)), fun _ _ => rfl⟩ := by
  intro x hx m
  simp only [Bool.and_eq_true] at hl
  obtain ⟨⟨⟨l1, l2⟩, l3⟩, l4⟩ := hl
  have l1 := Nat.le_of_ble_eq_true l1
  have l2 := Nat.le_of_ble_eq_true l2
  have l3 := Nat.le_of_ble_eq_true l3
  have hlen : (denA ts x).length = ts.length := by rw [← evs_den m, denL_len, evs_len]
  refine pfn_of hf hbody hnm N hN rs hrs (by simp only [hlen]; exact l1) fun X w0 => ?_
  let E : EC := { N := N, X := X, w0 := ⟨w0, fun _ => False, K⟩, P := P, n0 := 0, ks := [], m0 := m }
  have hE : EYok (mkY b N 0 [] rs) E := ⟨hb, rfl, rfl, rfl⟩
  have h := H E hE x hx
  unfold IW at h
  have h1 := h.run m (Agr.refl 0 [] m)
  have e : (ES.den m ⟨argS ids ts x, []⟩) = ⟨args0 (denA ts x), []⟩ := by
    unfold ES.den
    simp only [argS_eq]
    rw [argE_args0 m _ (by rw [evs_len]; exact l2), evs_den]
    rfl
  rw [e] at h1
  refine aw_mono h1 fun e s' ⟨m', es, h2, h3, h4⟩ => ?_
  subst h2
  cases e with
  | normal => exact resP_ok (E := E) hb.X l3 (by simpa only [onE, IW] using h4) m' m
  | ret => exact resP_ok (E := E) hb.X l3 (by simpa only [onE] using h4) m' m
  | exit i => exact h4.elim
  | _ => exact h4.elim
end
/-- Functions by how many things are handed on. -/
@[reducible] def fe0 (g : FuncId) (p : Prop) (r : List EV) : FE := ⟨g, [], fun _ => p, fun _ => retE r, fun x K => match x with | _ => K (p) (retE r), fun _ _ => rfl⟩
@[reducible] def fe1 (g : FuncId) (a : AT) (p : a.T → Prop) (r : a.T → List EV) : FE := ⟨g, [a], fun x => p x.1, fun x => retE (r x.1), fun x K => match x with | (x, _) => K (p x) (retE (r x)), fun _ _ => rfl⟩
@[reducible] def fe2 (g : FuncId) (a b : AT) (p : a.T → b.T → Prop) (r : a.T → b.T → List EV) : FE := ⟨g, [a, b], fun x => p x.1 x.2.1, fun x => retE (r x.1 x.2.1), fun x K => match x with | (x, y, _) => K (p x y) (retE (r x y)), fun _ _ => rfl⟩
@[reducible] def fe3 (g : FuncId) (a b c : AT) (p : a.T → b.T → c.T → Prop) (r : a.T → b.T → c.T → List EV) : FE := ⟨g, [a, b, c], fun x => p x.1 x.2.1 x.2.2.1, fun x => retE (r x.1 x.2.1 x.2.2.1), fun x K => match x with | (x, y, z, _) => K (p x y z) (retE (r x y z)), fun _ _ => rfl⟩
@[reducible] def fe4 (g : FuncId) (a b c d : AT) (p : a.T → b.T → c.T → d.T → Prop) (r : a.T → b.T → c.T → d.T → List EV) : FE := ⟨g, [a, b, c, d], fun x => p x.1 x.2.1 x.2.2.1 x.2.2.2.1, fun x => retE (r x.1 x.2.1 x.2.2.1 x.2.2.2.1), fun x K => match x with | (x, y, z, u, _) => K (p x y z u) (retE (r x y z u)), fun _ _ => rfl⟩
theorem FE.ok_ap {P : Program} {K : Prop} {f f' : FE} (h : FE.ok P K f) (hg : f'.g = f.g) (hts : f'.ts = f.ts) (hp : HEq f'.pre f.pre) (hr : HEq f'.res f.res) : FE.ok P K f' := by
  obtain ⟨g, ts, p, r, a, e⟩ := f
  obtain ⟨g', ts', p', r', a', e'⟩ := f'
  simp only at hg hts
  subst hg hts
  obtain rfl := eq_of_heq hp
  obtain rfl := eq_of_heq hr
  exact h
def sl1 (i : Nat) : (a : AT) → a.T → Nat × EV
  | .v a, x => (i, .td a x)
  | .p a, x => (i, .lp a x [])
  | .f g, _ => (i, .val (.func (.func g) #[] #[]))
section
variable {P : Program} {K : Prop} {eb : EB}
abbrev endR (eb : EB) (E : EC) (rs : Array ResultVar) (vs : List EV) : ES → Prop := fun s => (resP eb.toEX s rs.toList vs).ok E noB noR
theorem efn0 (hb : EBok eb P K) {g : FuncId} {fn : Func} {co : Code} {p : Prop} {r : List EV} (hf : P.funcs[g]? = some fn) (hbody : fn.body = some co) (hnm : (fn.name == "runtime.NumGoroutine") = false) (N : Nat) (hN : fn.ntmps = N) (rs : Array ResultVar) (hrs : fn.results = rs)
    (hl : (Nat.ble 0 N && Nat.ble 0 12 && Nat.ble rs.toList.length 3 && drawGood (mkY eb N 0 [] rs) co) = true) (H : ∀ (E : EC), EYok (mkY eb N 0 [] rs) E → p → IW E noB (endR eb E rs r) [.code co] ⟨[], []⟩) : FE.ok P K (fe0 g p r) :=
  FE.ok_ap (efn hb hf hbody hnm N hN rs hrs [] (fun _ => p) (fun _ => r) hl fun E hE x hx => H E hE hx) rfl rfl .rfl .rfl
theorem efn1 (hb : EBok eb P K) {g : FuncId} {fn : Func} {co : Code} {a : AT} {p : a.T → Prop} {r : a.T → List EV} (hf : P.funcs[g]? = some fn) (hbody : fn.body = some co) (hnm : (fn.name == "runtime.NumGoroutine") = false) (N : Nat) (hN : fn.ntmps = N) (rs : Array ResultVar) (hrs : fn.results = rs)
    (hl : (Nat.ble 1 N && Nat.ble 1 12 && Nat.ble rs.toList.length 3 && drawGood (mkY eb N 0 [] rs) co) = true) (H : ∀ (E : EC), EYok (mkY eb N 0 [] rs) E → ∀ x, p x → IW E noB (endR eb E rs (r x)) [.code co] ⟨[sl1 0 a x], []⟩) : FE.ok P K (fe1 g a p r) :=
  FE.ok_ap (efn hb hf hbody hnm N hN rs hrs [a] (fun x => p x.1) (fun x => r x.1) hl fun E hE x hx => by cases a <;> exact H E hE x.1 hx) rfl rfl .rfl .rfl
theorem efn2 (hb : EBok eb P K) {g : FuncId} {fn : Func} {co : Code} {a b : AT} {p : a.T → b.T → Prop} {r : a.T → b.T → List EV} (hf : P.funcs[g]? = some fn) (hbody : fn.body = some co) (hnm : (fn.name == "runtime.NumGoroutine") = false) (N : Nat) (hN : fn.ntmps = N) (rs : Array ResultVar) (hrs : fn.results = rs)
    (hl : (Nat.ble 2 N && Nat.ble 2 12 && Nat.ble rs.toList.length 3 && drawGood (mkY eb N 0 [] rs) co) = true) (H : ∀ (E : EC), EYok (mkY eb N 0 [] rs) E → ∀ x y, p x y → IW E noB (endR eb E rs (r x y)) [.code co] ⟨[sl1 0 a x, sl1 1 b y], []⟩) : FE.ok P K (fe2 g a b p r) :=
  FE.ok_ap (efn hb hf hbody hnm N hN rs hrs [a, b] (fun x => p x.1 x.2.1) (fun x => r x.1 x.2.1) hl fun E hE x hx => by cases a <;> cases b <;> exact H E hE x.1 x.2.1 hx) rfl rfl .rfl .rfl
theorem efn3 (hb : EBok eb P K) {g : FuncId} {fn : Func} {co : Code} {a b c : AT} {p : a.T → b.T → c.T → Prop} {r : a.T → b.T → c.T → List EV} (hf : P.funcs[g]? = some fn) (hbody : fn.body = some co) (hnm : (fn.name == "runtime.NumGoroutine") = false) (N : Nat) (hN : fn.ntmps = N) (rs : Array ResultVar) (hrs : fn.results = rs)
    (hl : (Nat.ble 3 N && Nat.ble 3 12 && Nat.ble rs.toList.length 3 && drawGood (mkY eb N 0 [] rs) co) = true) (H : ∀ (E : EC), EYok (mkY eb N 0 [] rs) E → ∀ x y z, p x y z → IW E noB (endR eb E rs (r x y z)) [.code co] ⟨[sl1 0 a x, sl1 1 b y, sl1 2 c z], []⟩) : FE.ok P K (fe3 g a b c p r) :=
  FE.ok_ap (efn hb hf hbody hnm N hN rs hrs [a, b, c] (fun x => p x.1 x.2.1 x.2.2.1) (fun x => r x.1 x.2.1 x.2.2.1) hl fun E hE x hx => by cases a <;> cases b <;> cases c <;> exact H E hE x.1 x.2.1 x.2.2.1 hx) rfl rfl .rfl .rfl
end
end Go.Proofs.Ytpehmadeklaebaa
