/-
  C8
-/
import Derived.Test.YtmhkalalcmkpbaaZC7
namespace Go.Proofs.Ytmhkalalcmkpbaa
open Go Go.RowKit
set_option linter.unusedVariables false
set_option linter.unusedSimpArgs false

/-- A call that turns own blocks hA into hB. -/
def MStep (P : Program) (C : Cx) (hA hB : List HObj) (f : Nat → AV) (o : Oper) (av : AV) : Prop :=
  ∀ (a : Act) (w : World), Env C.X C.w0 hA w → a.tmps.size = C.N → (∀ t ∈ opRds o, Rep (owned C.X hA) w (f t) (a.tmps.getD t undef)) →
    ∀ (next : Act → World → Prop) (Q : Exit → Act → World → Prop), (∀ v w', Env C.X C.w0 hB w' → Kept (owned C.X hA) w w' → Rep (owned C.X hB) w' av v → next (a.put o.dst v) w') → o.wp P a w next Q

section
variable {P : Program} {C : Cx} {Q : Exit → AS → Prop} {f : Nat → AV} {o : Oper}
end


theorem owned_map {X : Nat → Prop} {h h' : List HObj} (e : h.map HObj.blk = h'.map HObj.blk) : owned X h = owned X h' := by
  funext b
  refine propext ?_
  have key : ∀ {l : List HObj}, (∃ o ∈ l, o.blk = some b) ↔ some b ∈ l.map HObj.blk := by
    intro l; rw [List.mem_map]
  unfold owned
  rw [key, key, e]
/-- It waits for q, by however many steps. -/
def memT (ops : Array Oper) : Nat → Nat → Nat → Bool
  | 0, _, _ => false
  | f + 1, i, q => match ops[i]? with | some o => o.after.toList.any fun e => Region.binds .any e && (Nat.beq e.on q || memT ops f e.on q) | none => false
/-- What has come up, and what it waited for. -/
def Dn (ops : Array Oper) (listed : Array Bool) : Prop := ∀ (i : Nat) (o : Oper), ops[i]? = some o → listed.getD i false = true → ∀ e ∈ o.after, Region.binds .any e = true → listed.getD e.on false = true
theorem memT_listed {ops : Array Oper} {listed : Array Bool} (hd : Dn ops listed) : ∀ (f i q : Nat) (o : Oper), ops[i]? = some o → (∀ e ∈ o.after, Region.binds .any e = true → listed.getD e.on false = true) → memT ops f i q = true → listed.getD q false = true
  | 0, i, q, o, _, _, h => by cases h
  | f + 1, i, q, o, ho, hall, h => by
    simp only [memT, ho, List.any_eq_true, Bool.and_eq_true, Bool.or_eq_true] at h
    obtain ⟨e, he, hb, h⟩ := h
    have he' : e ∈ o.after := by simpa using he
    have hl := hall e he' hb
    rcases h with h | h
    · rw [← Nat.eq_of_beq_eq_true h]; exact hl
    · cases f with
      | zero => cases h
      | succ f =>
        cases ho' : ops[e.on]? with
        | none => simp only [memT, ho'] at h; cases h
        | some o' => exact memT_listed hd (f + 1) e.on q o' ho' (fun e2 he2 hb2 => hd e.on o' ho' hl e2 he2 hb2) h
theorem dn_start (ops : Array Oper) (n : Nat) : Dn ops (Array.replicate n false) := fun i o _ hl => by
  rw [Array.getD_eq_getD_getElem?] at hl
  by_cases h : i < n
  · simp [h] at hl
  · simp [h] at hl
theorem dn_step {ops : Array Oper} {listed : Array Bool} {i : Nat} (hd : Dn ops listed) (hi : i ∈ Region.ready .any ops listed) : Dn ops (listed.setIfInBounds i true) := by
  obtain ⟨h0, o, ho, hall⟩ := mem_ready.1 hi
  have keep : ∀ j, listed.getD j false = true → (listed.setIfInBounds i true).getD j false = true := fun j hj => by
    by_cases hij : i = j
    · subst hij
      rw [Array.getD_eq_getD_getElem?] at hj ⊢
      by_cases h : i < listed.size
      · simp [h]
      · simp [h] at hj
    · rw [getD_set_ne false hij]; exact hj
  intro j p hp hl e he hb
  by_cases hij : i = j
  · subst hij
    rw [ho] at hp
    obtain rfl : o = p := by injection hp
    exact keep _ (hall e he hb)
  · rw [getD_set_ne false hij] at hl
    exact keep _ (hd j p hp hl e he hb)
/-- The first n operations wait for what they read; those behind them wait for all before. -/
def drawOkB (ops : Array Oper) (n N : Nat) : Bool :=
  let l := ops.toList.zipIdx
  Nat.ble n ops.size &&
  l.all (fun p => p.1.after.all fun e => Nat.blt e.on p.2 || !(Region.binds .any e)) &&
  l.all (fun p => if Nat.blt p.2 n then
      (match p.1.dst with | some d => Nat.blt d N && l.all (fun q => Nat.beq q.2 p.2 || !(Nat.blt q.2 n) || !(match q.1.dst with | some d' => Nat.beq d' d | none => false)) | none => true) &&
      ((opRds p.1 ++ (match p.1.guard with | some (g, _) => ((ops[g]?).bind (·.dst)).toList | none => [])).all fun t =>
        l.all fun q => !(Nat.blt q.2 n) || !(match q.1.dst with | some d => Nat.beq d t | none => false) || (Nat.blt q.2 p.2 && memE p.1.after q.2))
    else (List.range p.2).all fun q => memT ops ops.size p.2 q)

structure DrawOkB (ops : Array Oper) (n N : Nat) : Prop where
  le : n ≤ ops.size
  down : ∀ (i : Nat) (o : Oper), ops[i]? = some o → ∀ e ∈ o.after, Region.binds .any e = true → e.on < i
  lt : ∀ (i : Nat) (o : Oper) d, i < n → ops[i]? = some o → o.dst = some d → d < N
  uniq : ∀ (i j : Nat) (o p : Oper) d, i < n → j < n → ops[i]? = some o → ops[j]? = some p → o.dst = some d → p.dst = some d → i = j
  reads : ∀ (i j : Nat) (o p : Oper) t, i < n → j < n → ops[i]? = some o → ops[j]? = some p → p.dst = some t → (t ∈ opRds o ∨ ∃ g b, o.guard = some (g, b) ∧ (ops[g]?).bind (·.dst) = some t) → j < i ∧ ∃ e ∈ o.after, e.on = j ∧ Region.binds .any e = true
  tail : ∀ (i j : Nat) (o : Oper), n ≤ i → j < i → ops[i]? = some o → memT ops ops.size i j = true

theorem drawOkB_spec {ops : Array Oper} {n N : Nat} (h : drawOkB ops n N = true) : DrawOkB ops n N := by
  simp only [drawOkB, Bool.and_eq_true, List.all_eq_true] at h
  obtain ⟨⟨h1, h2⟩, h3⟩ := h
  have mem : ∀ (i : Nat) (o : Oper), ops[i]? = some o → (o, i) ∈ ops.toList.zipIdx := fun i o ho => by
    rw [List.mem_zipIdx_iff_getElem?]
    simpa using ho
  have blt : ∀ {a b : Nat}, Nat.blt a b = true ↔ a < b := fun {a b} => by simp [Nat.blt_eq]
  have beq : ∀ {a b : Nat}, Nat.beq a b = true ↔ a = b := fun {a b} => ⟨Nat.eq_of_beq_eq_true, fun e => by subst e; simp⟩
  refine ⟨Nat.le_of_ble_eq_true h1, ?_, ?_, ?_, ?_, ?_⟩
  · intro i o ho e he hbd
    have := h2 (o, i) (mem i o ho)
    rw [Array.all_eq_true'] at this
    have := this e he
    rw [hbd] at this
    exact blt.1 (by simpa using this)
  · intro i o d hi ho hd
    have := h3 (o, i) (mem i o ho)
    simp only [blt.2 hi, if_true, hd, Bool.and_eq_true] at this
    exact blt.1 this.1.1
  · intro i j o p d hi hj ho hp hd hd'
    have := h3 (o, i) (mem i o ho)
    simp only [blt.2 hi, if_true, hd, Bool.and_eq_true, List.all_eq_true] at this
    have := this.1.2 (p, j) (mem j p hp)
    simp only [blt.2 hj, hd', beq.2 rfl, Bool.not_true, Bool.or_false, Bool.or_eq_true] at this
    exact (beq.1 this).symm
  · intro i j o p t hi hj ho hp hd hr
    have := h3 (o, i) (mem i o ho)
    simp only [blt.2 hi, if_true, Bool.and_eq_true, List.all_eq_true] at this
    have := this.2 t (by
      rw [List.mem_append]
      rcases hr with hr | ⟨g, b, hg, hgd⟩
      · exact .inl hr
      · refine .inr ?_
        simp only [hg, hgd, Option.toList, List.mem_singleton]) (p, j) (mem j p hp)
    simp only [blt.2 hj, hd, beq.2 rfl, Bool.not_true, Bool.false_or, Bool.and_eq_true] at this
    exact ⟨blt.1 this.1, memE_spec this.2⟩
  · intro i j o hi hj ho
    have := h3 (o, i) (mem i o ho)
    have hb : Nat.blt i n = false := by
      cases hh : Nat.blt i n with
      | false => rfl
      | true => exact absurd (blt.1 hh) (by omega)
    simp only [hb, Bool.false_eq_true, if_false, List.all_eq_true] at this
    exact this j (List.mem_range.2 hj)

theorem all_listedB {ops : Array Oper} {listed : Array Bool} (hw : ∀ (i : Nat) (o : Oper), ops[i]? = some o → ∀ e ∈ o.after, Region.binds .any e = true → e.on < i) (hs : listed.size = ops.size)
    (hr : Region.ready .any ops listed = []) : ∀ i, i < ops.size → listed.getD i false = true := by
  intro i
  induction i using Nat.strongRecOn with
  | _ i ih =>
    intro hi
    cases hl : listed.getD i false with
    | true => rfl
    | false =>
      exfalso
      have hlt : i < listed.size := by omega
      have h0 : listed.getD i true = false := by simpa [hlt] using hl
      have hm : i ∈ Region.ready .any ops listed := mem_ready.2 ⟨h0, ops[i], Array.getElem?_eq_getElem hi, fun e he hb => by
        have := hw i ops[i] (Array.getElem?_eq_getElem hi) e he hb
        exact ih e.on this (by omega)⟩
      rw [hr] at hm
      cases hm

section
variable {P : Program} {C : Cx} {f : Nat → AV} {o : Oper} {h : List HObj}
end

abbrev IA := Option (Nat × TypeId × List Value)
def msOk (ops : Array Oper) (n : Nat) (ms : List Nat) : Bool :=
  ms.all (fun i => Nat.blt i n) && decide (ms.Pairwise (· < ·)) && (ms.zip ms.tail).all fun p => match ops[p.2]? with | some o => memE o.after p.1 | none => false
def iaOk (ops : Array Oper) (n : Nat) : IA → Bool
  | none => true
  | some p => Nat.blt p.1 n && ((ops[p.1]?).bind (·.dst)).isSome
def iaIs (ia : IA) (i : Nat) : Bool := match ia with | some p => Nat.beq p.1 i | none => false

def ChainM (P : Program) (C : Cx) (H : Nat → List HObj) (ia : IA) (ops : Array Oper) (ms : List Nat) : Nat → List Oper → (Nat → AV) → ((Nat → AV) → Prop) → Prop
  | _, [], f, G => G f
  | i, o :: rest, f, G => ∃ av, ((i ∉ ms ∧ iaIs ia i = false ∧ ∀ k, k ≤ ms.length → ∀ al, PureG P C.w0.K C.N C.X (H k ++ al) ops f o av) ∨
      (iaIs ia i = false ∧ ∃ m, ms[m]? = some i ∧ o.guard = none ∧ ∀ al, MStep P C (H m ++ al) (H (m + 1) ++ al) f o av) ∨
      (i ∉ ms ∧ o.guard = none ∧ av = .any ∧ ∃ T zs, ia = some (i, T, zs) ∧ o.op = .alloc T ∧ tyZero P T = some zs)) ∧ ChainM P C H ia ops ms (i + 1) rest (putT C.N f o.dst av) G
theorem ChainM.steps {P : Program} {C : Cx} {H : Nat → List HObj} {ia : IA} {ops : Array Oper} {ms : List Nat} {G : (Nat → AV) → Prop} : ∀ {l : List Oper} {i0 : Nat} {f : Nat → AV}, ChainM P C H ia ops ms i0 l f G → ∃ (fs : Nat → Nat → AV) (vs : Nat → AV), fs 0 = f ∧ G (fs l.length) ∧
    ∀ (i : Nat) (o : Oper), l[i]? = some o → ((i0 + i ∉ ms ∧ iaIs ia (i0 + i) = false ∧ ∀ k, k ≤ ms.length → ∀ al, PureG P C.w0.K C.N C.X (H k ++ al) ops (fs i) o (vs i)) ∨
      (iaIs ia (i0 + i) = false ∧ ∃ m, ms[m]? = some (i0 + i) ∧ o.guard = none ∧ ∀ al, MStep P C (H m ++ al) (H (m + 1) ++ al) (fs i) o (vs i)) ∨
      (i0 + i ∉ ms ∧ o.guard = none ∧ vs i = .any ∧ ∃ T zs, ia = some (i0 + i, T, zs) ∧ o.op = .alloc T ∧ tyZero P T = some zs)) ∧ fs (i + 1) = putT C.N (fs i) o.dst (vs i)
  | [], i0, f, k => ⟨fun _ => f, fun _ => .any, rfl, k, fun i o hi => by simp at hi⟩
  | o :: rest, i0, f, ⟨av, hp, k⟩ => by
    obtain ⟨fs, vs, h0, hk, hs⟩ := ChainM.steps k
    refine ⟨fun i => match i with | 0 => f | i + 1 => fs i, fun i => match i with | 0 => av | i + 1 => vs i, rfl, hk, fun i p hi => ?_⟩
    cases i with
    | zero =>
      obtain rfl : o = p := by simpa using hi
      exact ⟨hp, h0⟩
    | succ i =>
      have := hs i p (by simpa using hi)
      rw [show i0 + 1 + i = i0 + (i + 1) by omega] at this
      exact this
theorem ChainM.imp {P : Program} {C : Cx} {H : Nat → List HObj} {ia : IA} {ops : Array Oper} {ms : List Nat} {G G' : (Nat → AV) → Prop} (hk : ∀ f, G f → G' f) : ∀ {l : List Oper} {i : Nat} {f : Nat → AV}, ChainM P C H ia ops ms i l f G → ChainM P C H ia ops ms i l f G'
  | [], _, _, k => hk _ k
  | _ :: _, _, _, ⟨av, hp, k⟩ => ⟨av, hp, ChainM.imp hk k⟩
def FinM (P : Program) (C : Cx) (ops : Array Oper) (Q : Exit → AS → Prop) (tail : List Oper) (hM : List HObj) (ia : IA) (f : Nat → AV) : Prop :=
  match ia with
  | none => AWL P C ops Q tail ⟨f, hM⟩
  | some (i, T, zs) => ∀ g d, (ops[i]?).bind (·.dst) = some d → AWL P C ops Q tail ⟨upd f d (.x (.pointer (some ⟨g, 0, none⟩))), hM ++ [.cells g T (zs.map .x)]⟩
/-- What was made in the middle of it. -/
def AL (ia : IA) (ops : Array Oper) (listed : Array Bool) (a : Act) (al : List HObj) : Prop :=
  match ia with
  | none => al = []
  | some (i, T, zs) => (listed.getD i false = false ∧ al = []) ∨ (listed.getD i false = true ∧ ∃ g, al = [.cells g T (zs.map .x)] ∧ ∀ d, (ops[i]?).bind (·.dst) = some d → a.tmps.getD d undef = .pointer (some ⟨g, 0, none⟩))

section
variable {P : Program} {C : Cx} {Q : Exit → AS → Prop} {s : AS}

theorem aw_drawM {id : Nat} {ops : Array Oper} (hm : P.follows .mixedOrders = true) (n : Nat) (hok : drawOkB ops n C.N = true) (H : Nat → List HObj) (ia : IA) (ms : List Nat) (hms : msOk ops n ms = true) (hia : iaOk ops n ia = true) (hH0 : H 0 = s.h)
    (hOm : ∀ m, m ≤ ms.length → (H m).map HObj.blk = (H 0).map HObj.blk)
    (hc : ChainM P C H ia ops ms 0 (ops.toList.take n) s.t (FinM P C ops Q (ops.toList.drop n) (H ms.length) ia)) : AW P C (.region id ops true) Q s := by
  obtain ⟨st, sh⟩ := s
  simp only at hH0 hc
  subst hH0
  have hO : ∀ m, m ≤ ms.length → ∀ al, owned C.X (H m ++ al) = owned C.X (H 0 ++ al) := fun m hm al => owned_map (by rw [List.map_append, List.map_append, hOm m hm])
  have hms2 : (∀ i ∈ ms, i < n) ∧ ms.Pairwise (· < ·) ∧ ∀ k i j, ms[k]? = some i → ms[k + 1]? = some j → ∀ o, ops[j]? = some o → memE o.after i = true := by
    simp only [msOk, Bool.and_eq_true, List.all_eq_true, decide_eq_true_eq] at hms
    refine ⟨fun i hi => by simpa [Nat.blt_eq] using hms.1.1 i hi, hms.1.2, fun k i j hk hj o ho => ?_⟩
    have := hms.2 (i, j) (List.mem_of_getElem? (i := k) (by rw [List.getElem?_zip_eq_some]; exact ⟨hk, by rw [List.getElem?_tail]; exact hj⟩))
    simp only at this
    rw [ho] at this; exact this
  have iaLt : ∀ i T zs, ia = some (i, T, zs) → i < n ∧ ∃ d, (ops[i]?).bind (·.dst) = some d := fun i T zs h => by
    subst h
    simp only [iaOk, Bool.and_eq_true, Nat.blt_eq] at hia
    exact ⟨hia.1, Option.isSome_iff_exists.1 hia.2⟩
  have msLt : ∀ (k i : Nat), ms[k]? = some i → i < n := fun k i h => hms2.1 i (List.mem_of_getElem? h)
  have msInj : ∀ (k k' i : Nat), ms[k]? = some i → ms[k']? = some i → k = k' := fun k k' i h h' => by
    obtain ⟨h1, e1⟩ := List.getElem?_eq_some_iff.1 h
    obtain ⟨h2, e2⟩ := List.getElem?_eq_some_iff.1 h'
    rcases Nat.lt_trichotomy k k' with g | g | g
    · have := List.pairwise_iff_getElem.1 hms2.2.1 k k' h1 h2 g; omega
    · exact g
    · have := List.pairwise_iff_getElem.1 hms2.2.1 k' k h2 h1 g; omega
  intro a0 w00 hs0
  have ok := drawOkB_spec hok
  clear hok
  obtain ⟨fs, vs, hf0, hK, hstep0⟩ := hc.steps
  have hstep := fun i o h => by have := hstep0 i o h; rw [Nat.zero_add] at this; exact this
  clear hstep0
  have hlen : (ops.toList.take n).length = n := by rw [List.length_take, Array.length_toList]; exact Nat.min_eq_left ok.le
  rw [hlen] at hK
  have hget : ∀ i, i < n → ∀ (o : Oper), ops[i]? = some o → (ops.toList.take n)[i]? = some o := fun i hi o ho => by
    rw [List.getElem?_take, if_pos hi]; simpa using ho
  -- what the chain's frames hold
  have keep : ∀ t, (∀ (j : Nat) (p : Oper), j < n → ops[j]? = some p → p.dst ≠ some t) → ∀ i, i ≤ n → fs i t = st t := by
    intro t ht i
    induction i with
    | zero => intro _; rw [hf0]
    | succ i ih =>
      intro hi
      have hlt : i < ops.size := Nat.lt_of_lt_of_le (by omega) ok.le
      have ho : ops[i]? = some ops[i] := Array.getElem?_eq_getElem hlt
      rw [(hstep i _ (hget i (by omega) _ ho)).2]
      have hne := ht i _ (by omega) ho
      cases hd : ops[i].dst with
      | none => exact ih (by omega)
      | some d =>
        rw [hd] at hne
        have hne : t ≠ d := fun e => hne (by rw [e])
        show (bif Nat.blt d C.N then upd (fs i) d (vs i) else fs i) t = _
        cases Nat.blt d C.N with
        | true => simp only [cond_true]; rw [upd_ne _ _ hne]; exact ih (by omega)
        | false => exact ih (by omega)
  have holds : ∀ (j : Nat) (p : Oper) t, j < n → ops[j]? = some p → p.dst = some t → ∀ i, j < i → i ≤ n → fs i t = vs j := by
    intro j p t hj hp hd i
    induction i with
    | zero => intro h; omega
    | succ i ih =>
      intro h1 h2
      have hlt : i < ops.size := Nat.lt_of_lt_of_le (by omega) ok.le
      have ho : ops[i]? = some ops[i] := Array.getElem?_eq_getElem hlt
      rw [(hstep i _ (hget i (by omega) _ ho)).2]
      by_cases hij : i = j
      · subst hij
        rw [hp] at ho
        obtain rfl : p = ops[i] := by injection ho
        have hb : Nat.blt t C.N = true := by simpa [Nat.blt_eq] using ok.lt i _ t hj hp hd
        rw [hd]
        show (bif Nat.blt t C.N then upd (fs i) t (vs i) else fs i) t = _
        rw [hb]; simp only [cond_true]; rw [upd_same]
      · have := ih (by omega) (by omega)
        cases hd' : ops[i].dst with
        | none => exact this
        | some d =>
          have hne : t ≠ d := fun e => hij (ok.uniq i j _ _ d (by omega) hj ho hp hd' (by rw [hd, e]))
          show (bif Nat.blt d C.N then upd (fs i) d (vs i) else fs i) t = _
          cases Nat.blt d C.N with
          | true => simp only [cond_true]; rw [upd_ne _ _ hne]; exact this
          | false => exact this
  -- the invariant
  let w1 : World := { w00 with drawn := w00.drawn + 1 }
  have hbw : Bl C.w0.K w00 w1 := ⟨⟨rfl, rfl, rfl, Nat.le_refl _, fun _ _ => rfl⟩, fun _ => Nat.le_succ _⟩
  have hs1 : C.St ⟨st, H 0⟩ a0 w1 := hs0.below_ hbw
  let A : Array Bool → Act → World → Prop := fun listed a w =>
    listed.size = ops.size ∧ ∃ m al, m ≤ ms.length ∧ (∀ k i, ms[k]? = some i → (listed.getD i false = true ↔ k < m)) ∧ AL ia ops listed a al ∧ Env C.X C.w0 (H m ++ al) w ∧ a.defers = [] ∧ a.tmps.size = C.N ∧
    (∀ t, (∀ (j : Nat) (p : Oper), j < n → ops[j]? = some p → p.dst ≠ some t) → Rep (owned C.X (H 0 ++ al)) w (st t) (a.tmps.getD t undef)) ∧
    (∀ (j : Nat) (p : Oper) t, j < n → ops[j]? = some p → p.dst = some t → listed.getD j false = true → Rep (owned C.X (H 0 ++ al)) w (vs j) (a.tmps.getD t undef)) ∧
    ∀ j, n ≤ j → listed.getD j false = false
  let B : Array Bool → Act → World → Prop := fun listed a w =>
    listed.size = ops.size ∧ ∃ k, n ≤ k ∧ k ≤ ops.size ∧ (∀ j, j < k → listed.getD j false = true) ∧ (∀ j, k ≤ j → listed.getD j false = false) ∧ wpList P ops (up C Q) (ops.toList.drop k) a w
  -- all of the first ones have come up
  have full : ∀ listed a w, A listed a w → (∀ j, j < n → listed.getD j false = true) → wpList P ops (up C Q) (ops.toList.drop n) a w := by
    intro listed a w ⟨h1, m, al, hm1, hm2, hal, henv, h3, h4, h5, h6, h7⟩ hall
    have hml : m = ms.length := by
      rcases Nat.lt_or_ge m ms.length with g | g
      · have := (hm2 m ms[m] (List.getElem?_eq_getElem g)).1 (hall _ (hms2.1 _ (List.getElem_mem g)))
        omega
      · omega
    subst hml
    have slots : ∀ t, Rep (owned C.X (H ms.length ++ al)) w (fs n t) (a.tmps.getD t undef) := fun t => by
      rw [hO _ (Nat.le_refl _)]
      by_cases ht : ∃ (j : Nat) (p : Oper), j < n ∧ ops[j]? = some p ∧ p.dst = some t
      · obtain ⟨j, p, hj, hp, hd⟩ := ht
        rw [holds j p t hj hp hd n hj (Nat.le_refl _)]
        exact h6 j p t hj hp hd (hall j hj)
      · have ht' : ∀ (j : Nat) (p : Oper), j < n → ops[j]? = some p → p.dst ≠ some t := fun j p hj hp hd => ht ⟨j, p, hj, hp, hd⟩
        rw [keep t ht' n (Nat.le_refl _)]
        exact h5 t ht'
    cases ia with
    | none =>
      obtain rfl : al = [] := hal
      rw [List.append_nil] at henv slots
      exact hK a w ⟨henv, h3, h4, slots⟩
    | some p =>
      obtain ⟨i, T, zs⟩ := p
      obtain ⟨hin, d, hd⟩ := iaLt i T zs rfl
      rcases hal with ⟨hl, _⟩ | ⟨hl, g, rfl, hp⟩
      · rw [hall i hin] at hl; cases hl
      · refine hK g d hd a w ⟨henv, h3, h4, fun t => ?_⟩
        by_cases htd : t = d
        · subst htd
          show Rep _ _ (upd (fs n) t _ t) _
          rw [upd_same, rep_x]
          exact hp t hd
        · show Rep _ _ (upd (fs n) d _ t) _
          rw [upd_ne _ _ htd]
          exact slots t
  have stepB : ∀ listed a w i, Dn ops listed → B listed a w → i ∈ Region.ready .any ops listed → wpOp P ops (up C Q) i (fun a w => A (listed.setIfInBounds i true) a w ∨ B (listed.setIfInBounds i true) a w) a w := by
    intro listed a w i hdn ⟨hsz, k, h1, h2, h3, h4, h5⟩ hi
    obtain ⟨h0, o, ho, hall⟩ := mem_ready.1 hi
    have hlt : i < ops.size := (Array.getElem?_eq_some_iff.1 ho).1
    have hki : k ≤ i := by
      rcases Nat.lt_or_ge i k with h | h
      · have := h3 i h
        have hl : i < listed.size := by omega
        simp [hl] at this h0
        rw [this] at h0; cases h0
      · exact h
    obtain rfl : i = k := by
      rcases Nat.lt_or_ge k i with h | h
      · have := memT_listed hdn _ i k o ho hall (ok.tail i k o (by omega) h ho)
        rw [h4 k (Nat.le_refl _)] at this; cases this
      · omega
    have hd : ops.toList.drop i = o :: ops.toList.drop (i + 1) := by
      have hl : i < ops.toList.length := by simpa using hlt
      rw [List.drop_eq_getElem_cons hl]
      congr 1
      have := (Array.getElem?_eq_some_iff.1 ho).2
      simpa using this
    rw [hd] at h5
    have h5' : wpOp P ops (up C Q) i (wpList P ops (up C Q) (ops.toList.drop (i + 1))) a w := by
      unfold wpOp
      rw [ho]
      exact h5
    refine wpOp_mono (fun a' w' h => .inr ⟨by simpa using hsz, i + 1, by omega, by omega, fun j hj => ?_, fun j hj => ?_, h⟩) h5'
    · by_cases hij : j = i
      · subst hij; have : j < listed.size := by omega
        simp [this]
      · rw [getD_set_ne false (Ne.symm hij)]; exact h3 j (by omega)
    · rw [getD_set_ne false (by omega)]; exact h4 j (by omega)
  refine wp_region_any hm (wpAny_inv (md := .any) (fun listed a w => Dn ops listed ∧ (A listed a w ∨ B listed a w)) ?_ ?_ ops.size _ a0 w1 ?_ ?_)
  · intro listed a w i ⟨hdn, hJ⟩ hi
    refine wpOp_mono (fun a' w' h => ⟨dn_step hdn hi, h⟩) ?_
    rcases hJ with hA | hB
    · have hA' := hA
      obtain ⟨h0, o, ho, hall⟩ := mem_ready.1 hi
      obtain ⟨h1, m, al, hm1, hm2, hal, env, h3, h4, h5, h6, h7⟩ := hA
      by_cases hin : i < n
      · -- one of the first
        obtain ⟨hp, hfs⟩ := hstep i o (hget i hin o ho)
        have reads : ∀ t, (t ∈ opRds o ∨ ∃ g b, o.guard = some (g, b) ∧ (ops[g]?).bind (·.dst) = some t) → Rep (owned C.X (H 0 ++ al)) w (fs i t) (a.tmps.getD t undef) := by
          intro t ht
          by_cases hw : ∃ (j : Nat) (p : Oper), j < n ∧ ops[j]? = some p ∧ p.dst = some t
          · obtain ⟨j, p, hj, hp, hd⟩ := hw
            obtain ⟨hji, e, he, hej, hb⟩ := ok.reads i j o p t hin hj ho hp hd ht
            rw [holds j p t hj hp hd i hji (Nat.le_of_lt hin)]
            exact h6 j p t hj hp hd (by have := hall e he hb; rwa [hej] at this)
          · have ht' : ∀ (j : Nat) (p : Oper), j < n → ops[j]? = some p → p.dst ≠ some t := fun j p hj hp hd => hw ⟨j, p, hj, hp, hd⟩
            rw [keep t ht' i (Nat.le_of_lt hin)]
            exact h5 t ht'
        have fin : ∀ v w' al', (∀ {c : AV} {u : Value}, Rep (owned C.X (H 0 ++ al)) w c u → Rep (owned C.X (H 0 ++ al')) w' c u) → AL ia ops (listed.setIfInBounds i true) (a.put o.dst v) al' →
            (∃ m, m ≤ ms.length ∧ (∀ k i', ms[k]? = some i' → ((listed.setIfInBounds i true).getD i' false = true ↔ k < m)) ∧ Env C.X C.w0 (H m ++ al') w') → Rep (owned C.X (H 0 ++ al')) w' (vs i) v → A (listed.setIfInBounds i true) (a.put o.dst v) w' := by
          intro v w' al' mono hal' ⟨m', e1, e2, e3⟩ hr
          refine ⟨by simpa using h1, m', al', e1, e2, hal', e3, ?_, ?_, fun t ht => ?_, fun j p t hj hp hd hl => ?_, fun j hj => ?_⟩
          · cases o.dst <;> exact h3
          · cases o.dst <;> simpa [Act.put] using h4
          · have := mono (h5 t ht)
            cases hd : o.dst with
            | none => exact this
            | some d =>
              have hne : d ≠ t := fun e => ht i o hin ho (by rw [hd, e])
              simpa [Act.put, Array.getElem?_setIfInBounds_ne hne] using this
          · by_cases hij : i = j
            · subst hij
              rw [ho] at hp
              obtain rfl : o = p := by injection hp
              have hlt : t < a.tmps.size := by rw [h4]; exact ok.lt i o t hin ho hd
              rw [hd]
              simpa [Act.put, hlt] using hr
            · rw [getD_set_ne false hij] at hl
              have := mono (h6 j p t hj hp hd hl)
              cases hd' : o.dst with
              | none => exact this
              | some d =>
                have hne : d ≠ t := fun e => hij (ok.uniq i j o p d hin hj ho hp hd' (by rw [hd, e]))
                simpa [Act.put, Array.getElem?_setIfInBounds_ne hne] using this
          · rw [getD_set_ne false (by omega)]; exact h7 j hj
        have alKeep : iaIs ia i = false → ∀ v, AL ia ops (listed.setIfInBounds i true) (a.put o.dst v) al := fun hni v => by
          cases ia with
          | none => exact hal
          | some p =>
            obtain ⟨j, T, zs⟩ := p
            have hij : i ≠ j := fun e => by subst e; simp [iaIs] at hni
            rcases hal with ⟨hl, e⟩ | ⟨hl, g, e, hp⟩
            · exact .inl ⟨by rw [getD_set_ne false hij]; exact hl, e⟩
            · refine .inr ⟨by rw [getD_set_ne false hij]; exact hl, g, e, fun d hd => ?_⟩
              have hpd := hp d hd
              cases hd' : o.dst with
              | none => exact hpd
              | some d' =>
                obtain ⟨q, hq, hqd⟩ := Option.bind_eq_some_iff.1 hd
                have hne : d' ≠ d := fun e => hij (ok.uniq i j o q d' hin (iaLt j T zs rfl).1 ho hq hd' (by rw [hqd, e]))
                simpa [Act.put, Array.getElem?_setIfInBounds_ne hne] using hpd
        have hlt0 : i < listed.size := by rw [h1]; exact (Array.getElem?_eq_some_iff.1 ho).1
        have hil : listed.getD i false = false := by
          have := h0
          simp [hlt0] at this ⊢
          exact this
        unfold wpOp
        rw [ho]
        simp only []
        rcases hp with ⟨hni, hna, hpk⟩ | ⟨hna, k, hk, hg, hst⟩ | ⟨hni, hg, hav, T, zs, hiaE, hop, hz⟩
        · have hE : ∀ w', Bl C.w0.K w w' → ∃ m, m ≤ ms.length ∧ (∀ k i', ms[k]? = some i' → ((listed.setIfInBounds i true).getD i' false = true ↔ k < m)) ∧ Env C.X C.w0 (H m ++ al) w' := fun w' hb =>
            ⟨m, hm1, fun k i' hki => by rw [getD_set_ne false (fun e : i = i' => hni (e ▸ List.mem_of_getElem? hki))]; exact hm2 k i' hki, env.below_ hb⟩
          have hreads := reads
          rw [← hO m hm1] at hreads
          have fin' : ∀ v w', Bl C.w0.K w w' → Rep (owned C.X (H m ++ al)) w' (vs i) v → A (listed.setIfInBounds i true) (a.put o.dst v) w' := fun v w' hb hr => fin v w' al (fun h => Rep.mono (Kept.of_below hb.b) (fun _ _ h => h) _ _ h) (alKeep hna v) (hE w' hb) (by rw [← hO m hm1]; exact hr)
          rcases hpk m hm1 al with ⟨hg, hp⟩ | ⟨g, b, b', t, hg, hgd, hft, hy, hn⟩ | ⟨g, b, t, hg, hgd, hft, hav⟩
          · rw [wanted_none hg]
            exact .inl (hp a w C.w0 rfl env h4 (fun t ht => hreads t (.inl ht)) _ _ fun v w' hb hr => .inl (fin' v w' hb hr))
          · have hr := hreads t (.inr ⟨g, b, hg, hgd⟩)
            rw [hft] at hr
            simp only [Rep] at hr
            have hyl := yield_bool hgd hr
            by_cases hbb : b' = b
            · subst hbb
              rw [show Region.wanted o (yielded ops a.tmps) = true by simp [Region.wanted, hg, hyl]]
              exact .inl (hy rfl a w C.w0 rfl env h4 (fun t ht => hreads t (.inl ht)) _ _ fun v w' hb hr => .inl (fin' v w' hb hr))
            · rw [show Region.wanted o (yielded ops a.tmps) = false by simp [Region.wanted, hg, hyl, hbb]]
              exact .inl (fin' undef w (Bl.refl _ _) (by
                rcases hn hbb with e | e
                · rw [e]; exact undef_rep
                · rw [e]; exact rep_x.2 rfl))
          · have hr := hreads t (.inr ⟨g, b, hg, hgd⟩)
            rw [hft] at hr
            simp only [Rep] at hr
            have hyl : yielded ops a.tmps g = none := by
              unfold yielded
              rw [hgd]
              show (match a.tmps[t]? with | some (.bool b) => some b | _ => none) = none
              rw [Array.getD_eq_getD_getElem?] at hr
              cases hh : a.tmps[t]? with
              | none => rfl
              | some v => rw [hh] at hr; obtain rfl : v = undef := hr; rfl
            rw [show Region.wanted o (yielded ops a.tmps) = false by simp [Region.wanted, hg, hyl]]
            exact .inl (fin' undef w (Bl.refl _ _) (by rw [hav]; exact rep_x.2 rfl))
        · obtain ⟨hkl, hke⟩ := List.getElem?_eq_some_iff.1 hk
          have hkm : k = m := by
            have g1 : ¬ k < m := fun g => by have := (hm2 k i hk).2 g; rw [hil] at this; cases this
            have g2 : k ≤ m := by
              rcases Nat.eq_zero_or_pos k with g | g
              · omega
              · have hml : k - 1 < ms.length := by omega
                have pw := hms2.2.2 (k - 1) ms[k - 1] i (List.getElem?_eq_getElem hml) (by rw [show k - 1 + 1 = k by omega]; exact hk) o ho
                obtain ⟨e, he, hej, hb⟩ := memE_spec pw
                have := hall e he hb
                rw [hej] at this
                have := (hm2 (k - 1) ms[k - 1] (List.getElem?_eq_getElem hml)).1 this
                omega
            omega
          subst hkm
          have hreads := reads
          rw [← hO k hm1] at hreads
          rw [wanted_none hg]
          refine .inl (hst al a w env h4 (fun t ht => hreads t (.inl ht)) _ _ fun v w' henv hkeep hr => .inl (fin v w' al (fun h => Rep.mono (by rw [← hO k hm1]; exact hkeep) (fun _ _ h => h) _ _ h) (alKeep hna v) ⟨k + 1, hkl, fun k' i' hki => ?_, henv⟩ (by rw [← hO (k + 1) hkl]; exact hr)))
          by_cases hii : i = i'
          · subst hii
            have := msInj k' k i hki hk
            subst this
            simp [hlt0]
          · rw [getD_set_ne false hii, hm2 k' i' hki]
            have : k' ≠ k := fun e => by subst e; rw [hk] at hki; injection hki with hki; exact hii hki
            omega
        · subst hiaE
          rcases hal with ⟨_, rfl⟩ | ⟨hl, _⟩
          · rw [List.append_nil] at env
            rw [wanted_none hg]
            obtain ⟨z, hz1, hz2⟩ := tyZero_spec hz w
            have hrun : (execOp a.eval o).run P w = .ok (.value (.pointer (some ⟨w.heap.size, 0, none⟩))) (w.alloc (.cells z.cells T)) := by
              simp [execOp, hop, Instr.alloc, hz1, newVar, newRow]
            have hst0 : C.St ⟨fun _ => .any, H m⟩ a w := ⟨env, h3, h4, fun t => by simp only [Rep]⟩
            have hnew := st_new (T := T) hst0 (by rw [← Array.length_toList, hz2]; simp) (show RepC _ _ (zs.map .x) (fun j => z.cells[j]?) by
              have e : (fun j => z.cells[j]?) = (fun j => zs[j]?) := funext fun j => by rw [← hz2]; exact Array.getElem?_toList.symm
              rw [e]; exact zero_rep zs) o.dst
            have hbl : Bl C.w0.K w (w.alloc (.cells z.cells T)) := Bl.alloc _ _ _
            refine .inl ?_
            unfold Oper.wp
            rw [hrun]
            refine .inl (fin _ _ [.cells w.heap.size T (zs.map .x)] (fun h => Rep.mono (Kept.of_below hbl.b) (fun b hlt hb => ?_) _ _ h) (.inr ⟨by simp [hlt0], _, rfl, fun d hd => ?_⟩) ⟨m, hm1, fun k i' hki => by rw [getD_set_ne false (fun e : i = i' => hni (e ▸ List.mem_of_getElem? hki))]; exact hm2 k i' hki, hnew.env⟩ (by rw [hav]; simp only [Rep]))
            · rcases hb with hx | ⟨q, hq, hqb⟩
              · exact .inl hx
              · rcases List.mem_append.1 hq with hq | hq
                · exact .inr ⟨q, List.mem_append_left _ hq, hqb⟩
                · obtain rfl : q = .cells w.heap.size T (zs.map .x) := by simpa using hq
                  simp only [HObj.blk, Option.some.injEq] at hqb
                  omega
            · rw [ho] at hd
              have hd' : o.dst = some d := hd
              have hlt : d < a.tmps.size := by rw [h4]; exact ok.lt i o d hin ho hd'
              rw [hd']
              simp [Act.put, hlt]
          · rw [hil] at hl; cases hl
      · -- the first of those behind
        have hall' : ∀ j, j < i → listed.getD j false = true := fun j hj => by
          exact memT_listed hdn _ i j o ho hall (ok.tail i j o (by omega) hj ho)
        have hni : i = n := by
          rcases Nat.lt_or_ge n i with h | h
          · have := hall' n h
            rw [h7 n (Nat.le_refl _)] at this; cases this
          · omega
        subst hni
        have hwl := full listed a w hA' hall'
        exact stepB listed a w i hdn ⟨h1, i, Nat.le_refl _, ok.le, hall', h7, hwl⟩ hi
    · exact stepB listed a w i hdn hB hi
  · intro listed a w ⟨_, hJ⟩ hr
    have hsz : listed.size = ops.size := by rcases hJ with h | h <;> exact h.1
    have hall := all_listedB ok.down hsz hr
    rcases hJ with hA | ⟨_, k, h1, h2, h3, h4, h5⟩
    · have hn : n = ops.size := by
        rcases Nat.lt_or_ge n ops.size with h | h
        · have := hall n h
          obtain ⟨_, _, _, _, _, _, _, _, _, _, _, h7⟩ := hA
          rw [h7 n (Nat.le_refl _)] at this; cases this
        · have := ok.le; omega
      have hwl := full listed a w hA fun j hj => hall j (by omega)
      have e : ops.toList.drop n = [] := by rw [hn]; exact List.drop_eq_nil_of_le (by simp)
      rw [e] at hwl
      exact hwl
    · have hk : k = ops.size := by
        rcases Nat.lt_or_ge k ops.size with h | h
        · have := hall k h
          rw [h4 k (Nat.le_refl _)] at this; cases this
        · omega
      have e : ops.toList.drop k = [] := by rw [hk]; exact List.drop_eq_nil_of_le (by simp)
      rw [e] at h5
      exact h5
  · unfold unl
    have := List.length_filter_le (fun i => !(Array.replicate ops.size false).getD i true) (List.range ops.size)
    simpa using this
  · have gf : ∀ i, (Array.replicate ops.size false).getD i false = false := fun j => by
      rw [Array.getD_eq_getD_getElem?]
      by_cases hlt : j < ops.size
      · simp [hlt]
      · simp [hlt]
    refine ⟨dn_start _ _, .inl ⟨by simp, 0, [], Nat.zero_le _, fun k i hki => ?_, ?_, by rw [List.append_nil]; exact hs1.env, hs1.slots.defers, hs1.slots.size, fun t _ => by rw [List.append_nil]; exact hs1.slots.slot t, fun j p t hj hp hd hl => ?_, fun j hj => gf j⟩⟩
    · rw [gf]; simp
    · cases ia with
      | none => exact rfl
      | some p => exact .inl ⟨gf _, rfl⟩
    · rw [gf] at hl; cases hl
end

section
variable {P : Program} {C : Cx} {Q : Exit → AS → Prop} {f : Nat → AV} {h : List HObj} {ops : Array Oper} {o : Oper} {rest : List Oper} {H : Nat → List HObj} {ms : List Nat} {i : Nat} {G : (Nat → AV) → Prop}
theorem wDrawM {id : Nat} {l : List Oper} (n : Nat) (hm : P.follows .mixedOrders = true) (hok : drawOkB l.toArray n C.N = true) (H : Nat → List HObj) (ms : List Nat) (hms : msOk l.toArray n ms = true) (hH0 : H 0 = h)
    (hO : ∀ m, m ≤ ms.length → (H m).map HObj.blk = (H 0).map HObj.blk)
    (k : ChainM P C H none l.toArray ms 0 (l.take n) f fun f => WL none P C l.toArray Q (l.drop n) ⟨f, H ms.length⟩) : W P C (.region id l.toArray true) Q ⟨f, h⟩ :=
  ⟨aw_drawM hm n hok H none ms hms rfl hH0 hO (by simpa using ChainM.imp (G := fun f => WL none P C l.toArray Q (l.drop n) ⟨f, H ms.length⟩) (fun f k => by simpa [FinM] using k.run) (by simpa using k))⟩
theorem dwNil {ia : IA} (k : G f) : ChainM P C H ia ops ms i [] f G := k
theorem dwP {ia : IA} {av : AV} {d : Nat} (hi : ms.contains i = false) (hia : iaIs ia i = false) (hg : o.guard = none) (hd : o.dst = some d) (hN : Nat.blt d C.N = true) (hp : ∀ k al, PureOp P C.w0.K C.N C.X (H k ++ al) f o av) (k : ChainM P C H ia ops ms (i + 1) rest (upd f d av) G) : ChainM P C H ia ops ms i (o :: rest) f G :=
  ⟨av, .inl ⟨fun hm => by rw [List.contains_eq_mem] at hi; simp [hm] at hi, hia, fun k _ al => .inl ⟨hg, hp k al⟩⟩, by rw [hd, putT_upd hN]; exact k⟩
end
end Go.Proofs.Ytmhkalalcmkpbaa
