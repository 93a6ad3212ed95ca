/-
  C2 C3 C4
-/
import Derived.Test.YtpehmadeklaebaaZC1
import Derived.Test.YtpehmadeklaebaaZOrd
import Derived.Lib.AppendStr
import Derived.Shelf.Strings.Builder1
namespace Go.Proofs.Ytpehmadeklaebaa
open Go Go.RowKit
set_option linter.unusedVariables false
set_option linter.unusedSimpArgs false

theorem pw_of {h : List HObj} : (∀ (i j : Nat) (o p : HObj) b, h[i]? = some o → h[j]? = some p → o.blk = some b → p.blk = some b → i = j) ↔ h.Pairwise (fun o p => ∀ b, o.blk = some b → p.blk ≠ some b) := by
  rw [List.pairwise_iff_getElem]
  constructor
  · intro H i j hi hj hij b ho hp
    have := H i j h[i] h[j] b (List.getElem?_eq_getElem hi) (List.getElem?_eq_getElem hj) ho hp
    omega
  · intro H i j o p b hi hj ho hp
    obtain ⟨hi1, rfl⟩ := List.getElem?_eq_some_iff.1 hi
    obtain ⟨hj1, rfl⟩ := List.getElem?_eq_some_iff.1 hj
    rcases Nat.lt_trichotomy i j with h1 | h1 | h1
    · exact absurd hp (H i j hi1 hj1 h1 b ho)
    · exact h1
    · exact absurd ho (H j i hj1 hi1 h1 b hp)
theorem owned_perm {X : Nat → Prop} {h h' : List HObj} (hp : h.Perm h') (b : Nat) : owned X h b ↔ owned X h' b := by
  unfold owned
  constructor
  · rintro (hx | ⟨o, ho, hob⟩)
    · exact .inl hx
    · exact .inr ⟨o, hp.mem_iff.1 ho, hob⟩
  · rintro (hx | ⟨o, ho, hob⟩)
    · exact .inl hx
    · exact .inr ⟨o, hp.mem_iff.2 ho, hob⟩
theorem Env.perm {X : Nat → Prop} {w0 : Orig} {w : World} {h h' : List HObj} (env : Env X w0 h w) (hp : h.Perm h') : Env X w0 h' w where
  below := env.below
  objs o ho := HObj.ok_mono (env.objs o (hp.mem_iff.2 ho)) (Kept.refl _ _) (fun b _ hb => (owned_perm hp b).2 hb) fun _ _ => rfl
  new o ho := env.new o (hp.mem_iff.2 ho)
  lt o ho := env.lt o (hp.mem_iff.2 ho)
  ext := env.ext
  apart := pw_of.2 ((hp.pairwise_iff (fun {o p} (H : ∀ b, o.blk = some b → p.blk ≠ some b) b h1 h2 => H b h2 h1)).1 (pw_of.1 env.apart))
theorem St.perm {N : Nat} {X : Nat → Prop} {w0 : Orig} {w : World} {f : Nat → AV} {a : Act} {h h' : List HObj} (hs : St N X w0 ⟨f, h⟩ a w) (hp : h.Perm h') : St N X w0 ⟨f, h'⟩ a w :=
  ⟨hs.env.perm hp, hs.slots.mono (Kept.refl _ _) fun b _ hb => (owned_perm hp b).2 hb⟩

section
variable {P : Program} {C : Cx} {Q : Exit → AS → Prop} {f : Nat → AV} {h : List HObj} {ops : Array Oper} {o : Oper} {rest : List Oper}
/-- A call that is handed the last ones of the caller's own blocks. -/
theorem sMs {g : FuncId} {xs : Array Operand} {ts : Array TypeId} {avs : List AV} {h1 hs : List HObj} {R : AV → List HObj → Prop} (hg : o.guard = none) (ho : o.op = .call { callee := .value (.func g), args := xs, argTypes := ts }) (hp : MFn P C.w0.K g avs hs R) (hs0 : SubL (xs.toList.map (evalT f)) avs)
    (k : ∀ av hs', R av hs' → WL none P C ops Q rest ⟨putT C.N f o.dst av, h1 ++ hs'⟩) : WL none P C ops Q (o :: rest) ⟨f, h1 ++ hs⟩ := by
  refine ⟨fun a w hst => wpList_plain hg fun K hK => ?_⟩
  have env := hst.env
  simp only at env
  have hr' : ∀ x ∈ xs.toList, Rep (owned C.X (h1 ++ hs)) w (evalT f x) (a.eval x) := fun x _ => hst.slots.eval x
  have hrun : (execOp a.eval o).run P w = .ok (.enter g (xs.map a.eval)) w := by
    simp [execOp, ho, resolve, Act.eval, Deferred.ofValue, invoke, hp.enter]
  unfold Oper.wp
  rw [hrun]
  simp only [Oper.upon]
  have hl : (xs.map a.eval).size = avs.length := by rw [← hs0.len]; simp
  have hR1 := args_repC (O := owned C.X (h1 ++ hs)) (w := w) (a := a) hr' hs0
  have e : (fun j => (xs.map a.eval)[j]?) = (fun j => (xs.toList.map a.eval)[j]?) := funext fun j => by rw [← Array.getElem?_toList, Array.toList_map]
  have cross : ∀ (o p : HObj) b, o ∈ h1 → p ∈ hs → o.blk = some b → p.blk = some b → False := fun o p b h2 h3 h4 h5 => by
    have := List.pairwise_append.1 (pw_of.1 env.apart)
    exact this.2.2 o h2 p h3 b h4 h5
  have hXne : ∀ b, C.X b → ∀ o ∈ h1 ++ hs, o.blk ≠ some b := fun b hx o ho hob => by
    have h5 := env.ext b hx
    rcases env.new o ho b hob with h6 | h6
    · omega
    · exact h5.2 h6
  let O' : Nat → Prop := owned C.X h1
  have hsub1 : ∀ b, owned O' hs b → owned C.X (h1 ++ hs) b := fun b hb => by
    rcases hb with (hx | ⟨o, ho, hob⟩) | ⟨o, ho, hob⟩
    · exact .inl hx
    · exact .inr ⟨o, List.mem_append_left _ ho, hob⟩
    · exact .inr ⟨o, List.mem_append_right _ ho, hob⟩
  have pws := List.pairwise_append.1 (pw_of.1 env.apart)
  have env0 : Env O' ⟨w, fun b => ∃ o ∈ hs, o.blk = some b, C.w0.K⟩ hs w := by
    refine ⟨Chg.refl _ _ _, fun o ho => ?_, fun o ho b hob => .inr ⟨o, ho, hob⟩, fun o ho b hob => env.lt o (List.mem_append_right _ ho) b hob, fun b hb => ⟨owned_lt env (hsub1 b (.inl hb)), fun ⟨o, ho, hob⟩ => ?_⟩, pw_of.2 pws.2.1⟩
    · exact HObj.ok_mono (env.objs o (List.mem_append_right _ ho)) (Kept.refl _ _) (fun b _ hb => hsub1 b hb) fun _ _ => rfl
    · rcases hb with hx | ⟨p, hp, hpb⟩
      · exact hXne b hx o (List.mem_append_right _ ho) hob
      · exact cross p o b hp ho hpb hob
  refine (hp.calls O' w (xs.map a.eval) env0 hl ?_).mono ?_
  · rw [e]; exact RepC.mono (Kept.refl _ _) (fun b _ hb => hsub1 b hb) _ _ hR1
  · rintro e w' ⟨r, av, hs', rfl, h2, env', h4⟩
    have hF : ∀ b, b < w.heap.size → ∀ p ∈ hs', p.blk = some b → ∃ o ∈ hs, o.blk = some b := fun b hb p hp hpb => by
      rcases env'.new p hp b hpb with h5 | h5
      · simp only at h5; omega
      · exact h5
    have hO : ∀ b, b < w.heap.size → owned C.X (h1 ++ hs') b → owned C.X (h1 ++ hs) b := fun b hb hx => by
      rcases hx with hx | ⟨p, hp, hpb⟩
      · exact .inl hx
      · rcases List.mem_append.1 hp with hp | hp
        · exact .inr ⟨p, List.mem_append_left _ hp, hpb⟩
        · obtain ⟨o, ho, hob⟩ := hF b hb p hp hpb
          exact .inr ⟨o, List.mem_append_right _ ho, hob⟩
    have hkeep : Kept (owned C.X (h1 ++ hs)) w w' := ⟨env'.below.size, fun b hb hne => env'.below.block b hb fun ⟨o, ho, hob⟩ => hne (.inr ⟨o, List.mem_append_right _ ho, hob⟩)⟩
    have hsub2 : ∀ b, owned C.X (h1 ++ hs') b → owned O' hs' b := fun b hb => by
      rcases hb with hx | ⟨o, ho, hob⟩
      · exact .inl (.inl hx)
      · rcases List.mem_append.1 ho with ho | ho
        · exact .inl (.inr ⟨o, ho, hob⟩)
        · exact .inr ⟨o, ho, hob⟩
    have env2 : Env C.X C.w0 (h1 ++ hs') w' := by
      refine ⟨?_, fun o ho => ?_, fun o ho b hob => ?_, fun o ho b hob => ?_, env.ext, pw_of.2 (List.pairwise_append.2 ⟨pws.1, pw_of.1 env'.apart, fun o ho p hp b hob hpb => ?_⟩)⟩
      · refine ⟨env'.below.os.trans env.below.os, env'.below.tape.trans env.below.tape, env'.below.output.trans env.below.output, Nat.le_trans env.below.size env'.below.size, fun b hb hf => (env'.below.block b (Nat.lt_of_lt_of_le hb env.below.size) fun ⟨o, ho, hob⟩ => ?_).trans (env.below.block b hb hf), fun hk => Nat.le_trans (env.below.drawn hk) (env'.below.drawn hk)⟩
        rcases env.new o (List.mem_append_right _ ho) b hob with h5 | h5
        · omega
        · exact hf h5
      · rcases List.mem_append.1 ho with ho | ho
        · refine HObj.ok_mono (env.objs o (List.mem_append_left _ ho)) hkeep hO fun b hob => env'.below.block b (env.lt o (List.mem_append_left _ ho) b hob) fun ⟨p, hp, hpb⟩ => cross o p b ho hp hob hpb
        · exact HObj.ok_mono (env'.objs o ho) (Kept.refl _ _) (fun b _ hb' => hsub2 b hb') fun _ _ => rfl
      · rcases List.mem_append.1 ho with ho | ho
        · exact env.new o (List.mem_append_left _ ho) b hob
        · rcases env'.new o ho b hob with h5 | ⟨p, hp, hpb⟩
          · exact .inl (Nat.le_trans env.below.size h5)
          · exact env.new p (List.mem_append_right _ hp) b hpb
      · rcases List.mem_append.1 ho with ho | ho
        · exact Nat.lt_of_lt_of_le (env.lt o (List.mem_append_left _ ho) b hob) env'.below.size
        · exact env'.lt o ho b hob
      · obtain ⟨q, hq, hqb⟩ := hF b (env.lt o (List.mem_append_left _ ho) b hob) p hp hpb
        exact cross o q b ho hq hob hqb
    refine hK _ _ ((k av hs' h2).run _ _ ⟨env2, ?_⟩)
    exact (hst.slots.mono hkeep hO).put o.dst (Rep.mono (Kept.refl _ w') (fun b _ hb' => hsub2 b hb') _ _ h4)

end
end Go.Proofs.Ytpehmadeklaebaa

namespace Go.Proofs.Ytpehmadeklaebaa
open Go Go.RowKit
set_option linter.unusedVariables false
set_option linter.unusedSimpArgs false

section
variable {P : Program} {K : Prop} {N : Nat} {X : Nat → Prop} {h : List HObj} {f : Nat → AV} {o : Oper}
theorem p_nilCheck {x : Operand} {ad : Addr} (ho : o.op = .nilCheck x) (hx : evalT f x = .x (.pointer (some ad))) : PureOp P K N X h f o (.x (.pointer (some ad))) := pure_run fun a w w0 env H => by
  rw [ho] at H
  have h1 := H x (by simp [Op.operands])
  rw [hx, rep_x] at h1
  exact ⟨_, by simp [execOp, ho, h1], rep_x.2 rfl⟩
theorem p_nilCheck_ip {x : Operand} {cs : List AV} (ho : o.op = .nilCheck x) (hx : evalT f x = .ip cs) : PureOp P K N X h f o (.ip cs) := pure_run fun a w w0 env H => by
  rw [ho] at H
  have h1 := H x (by simp [Op.operands])
  rw [hx] at h1
  have h2 := h1
  simp only [Rep] at h1
  obtain ⟨ad, e, _⟩ := h1
  exact ⟨a.eval x, by simp [execOp, ho, e], h2⟩
end

section
variable {P : Program} {C : Cx} {Q : Exit → AS → Prop} {f : Nat → AV} {h : List HObj} {ops : Array Oper} {o : Oper} {rest : List Oper}

end
end Go.Proofs.Ytpehmadeklaebaa

namespace Go.Proofs.Ytpehmadeklaebaa
open Go Go.RowKit
set_option linter.unusedVariables false
set_option linter.unusedSimpArgs false

theorem flat_len_ {α : Type} {enc : α → List AV} {k : Nat} (hk : ∀ x, (enc x).length = k) : ∀ l : List α, (l.flatMap enc).length = l.length * k
  | [] => by simp
  | x :: l => by rw [List.flatMap_cons, List.length_append, hk, flat_len_ hk l, List.length_cons, Nat.add_mul, Nat.one_mul, Nat.add_comm]
theorem flat_take_ {α : Type} {enc : α → List AV} {k : Nat} (hk : ∀ x, (enc x).length = k) : ∀ (l : List α) (n : Nat), (l.flatMap enc).take (n * k) = (l.take n).flatMap enc
  | [], n => by simp
  | x :: l, 0 => by simp
  | x :: l, n + 1 => by
    rw [List.flatMap_cons, List.take_succ_cons, List.flatMap_cons, ← flat_take_ hk l n, show (n + 1) * k = (enc x).length + n * k by rw [hk, Nat.add_mul, Nat.one_mul, Nat.add_comm], List.take_append, List.take_of_length_le (by omega)]
    congr 2; omega
theorem flat_drop_ {α : Type} {enc : α → List AV} {k : Nat} (hk : ∀ x, (enc x).length = k) : ∀ (l : List α) (n : Nat), (l.flatMap enc).drop (n * k) = (l.drop n).flatMap enc
  | [], n => by simp
  | x :: l, 0 => by simp
  | x :: l, n + 1 => by
    rw [List.flatMap_cons, List.drop_succ_cons, ← flat_drop_ hk l n, show (n + 1) * k = (enc x).length + n * k by rw [hk, Nat.add_mul, Nat.one_mul, Nat.add_comm], List.drop_append, List.drop_eq_nil_of_le (by omega), List.nil_append]
    congr 1; omega
theorem ones_app : ∀ {a b : List AV}, AV.ones a = true → AV.ones b = true → AV.ones (a ++ b) = true
  | [], _, _, h => h
  | c :: a, b, h, k => by
    simp only [AV.ones, Bool.and_eq_true] at h
    simp only [List.cons_append, AV.ones, Bool.and_eq_true]
    exact ⟨h.1, ones_app h.2 k⟩
theorem ones_flat {α : Type} {enc : α → List AV} (h : ∀ x, AV.ones (enc x) = true) : ∀ l : List α, AV.ones (l.flatMap enc) = true
  | [] => rfl
  | x :: l => by rw [List.flatMap_cons]; exact ones_app (h x) (ones_flat h l)

section
variable {P : Program} {K : Prop} {N : Nat} {X : Nat → Prop} {h : List HObj} {f : Nat → AV} {o : Oper}
/-- A cut of a slice of things. -/
theorem pCut {α : Type} {enc : α → List AV} {t e : TypeId} {x : Operand} {lo hi : Option Operand} {kk : Nat} {l : List α} {b : Bool} (a c : Nat) (ho : o.op = .slice t x lo hi none) (hx : evalT f x = .sl kk l.length (l.flatMap enc)) (ht : P.underlying t = some (.slice e)) (he : tyOf P e = some (b, kk)) (hk : ∀ x, (enc x).length = kk)
    (hlo : boundOf f 0 lo a) (hhi : boundOf f l.length hi c) (h1 : a ≤ c) (h2 : c ≤ l.length) : PureOp P K N X h f o (.sl kk ((l.take c).drop a).length (((l.take c).drop a).flatMap enc)) := by
  have := p_slice_sl (K := K) (N := N) (X := X) (h := h) ho hx ht he hlo hhi h1 h2
  rw [flat_take_ hk, flat_drop_ hk] at this
  rw [List.length_drop, List.length_take, Nat.min_eq_left h2]
  exact this
end
section
variable {P : Program} {C : Cx} {Q : Exit → AS → Prop} {f : Nat → AV} {h : List HObj} {ops : Array Oper} {o : Oper} {rest : List Oper}
end

section
variable {P : Program} {K : Prop} {N : Nat} {X : Nat → Prop} {h : List HObj} {f : Nat → AV} {o : Oper}
end
section
variable {P : Program} {C : Cx} {Q : Exit → AS → Prop} {f : Nat → AV} {h : List HObj} {ops : Array Oper} {o : Oper} {rest : List Oper}
end
end Go.Proofs.Ytpehmadeklaebaa
