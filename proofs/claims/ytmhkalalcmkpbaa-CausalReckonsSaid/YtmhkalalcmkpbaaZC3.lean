/-
  C2 C3
-/
import Derived.Test.YtmhkalalcmkpbaaZC1
import Derived.Lib.AppendStr
import Derived.Shelf.Strings.Builder1
namespace Go.Proofs.Ytmhkalalcmkpbaa
open Go Go.RowKit
set_option linter.unusedVariables false
set_option linter.unusedSimpArgs false

theorem pw_of {h : List HObj} : (∀ (i j : Nat) (o p : HObj) b, h[i]? = some o → h[j]? = some p → o.blk = some b → p.blk = some b → i = j) ↔ h.Pairwise (fun o p => ∀ b, o.blk = some b → p.blk ≠ some b) := by
  rw [List.pairwise_iff_getElem]
  constructor
  · intro H i j hi hj hij b ho hp
    have := H i j h[i] h[j] b (List.getElem?_eq_getElem hi) (List.getElem?_eq_getElem hj) ho hp
    omega
  · intro H i j o p b hi hj ho hp
    obtain ⟨hi1, rfl⟩ := List.getElem?_eq_some_iff.1 hi
    obtain ⟨hj1, rfl⟩ := List.getElem?_eq_some_iff.1 hj
    rcases Nat.lt_trichotomy i j with h1 | h1 | h1
    · exact absurd hp (H i j hi1 hj1 h1 b ho)
    · exact h1
    · exact absurd ho (H j i hj1 hi1 h1 b hp)
theorem owned_perm {X : Nat → Prop} {h h' : List HObj} (hp : h.Perm h') (b : Nat) : owned X h b ↔ owned X h' b := by
  unfold owned
  constructor
  · rintro (hx | ⟨o, ho, hob⟩)
    · exact .inl hx
    · exact .inr ⟨o, hp.mem_iff.1 ho, hob⟩
  · rintro (hx | ⟨o, ho, hob⟩)
    · exact .inl hx
    · exact .inr ⟨o, hp.mem_iff.2 ho, hob⟩
theorem Env.perm {X : Nat → Prop} {w0 : Orig} {w : World} {h h' : List HObj} (env : Env X w0 h w) (hp : h.Perm h') : Env X w0 h' w where
  below := env.below
  objs o ho := HObj.ok_mono (env.objs o (hp.mem_iff.2 ho)) (Kept.refl _ _) (fun b _ hb => (owned_perm hp b).2 hb) fun _ _ => rfl
  new o ho := env.new o (hp.mem_iff.2 ho)
  lt o ho := env.lt o (hp.mem_iff.2 ho)
  ext := env.ext
  apart := pw_of.2 ((hp.pairwise_iff (fun {o p} (H : ∀ b, o.blk = some b → p.blk ≠ some b) b h1 h2 => H b h2 h1)).1 (pw_of.1 env.apart))
theorem St.perm {N : Nat} {X : Nat → Prop} {w0 : Orig} {w : World} {f : Nat → AV} {a : Act} {h h' : List HObj} (hs : St N X w0 ⟨f, h⟩ a w) (hp : h.Perm h') : St N X w0 ⟨f, h'⟩ a w :=
  ⟨hs.env.perm hp, hs.slots.mono (Kept.refl _ _) fun b _ hb => (owned_perm hp b).2 hb⟩

section
variable {P : Program} {C : Cx} {Q : Exit → AS → Prop} {f : Nat → AV} {h : List HObj} {ops : Array Oper} {o : Oper} {rest : List Oper}
theorem wPerm {c : Code} (h' : List HObj) (hp : h.Perm h') (k : W P C c Q ⟨f, h'⟩) : W P C c Q ⟨f, h⟩ := ⟨fun a w hs => k.run a w (hs.perm hp)⟩
theorem lPerm {l : List Oper} (h' : List HObj) (hp : h.Perm h') (k : WL none P C ops Q l ⟨f, h'⟩) : WL none P C ops Q l ⟨f, h⟩ := ⟨fun a w hs => k.run a w (hs.perm hp)⟩

theorem split2 {α : Type} {h : List α} {i j : Nat} {a b : α} (hij : i ≠ j) (hi : h[i]? = some a) (hj : h[j]? = some b) : ∃ r, h.Perm (r ++ [a, b]) ∧ ∀ p q, (r ++ [p, q]).Perm ((h.set i p).set j q) := by
  obtain ⟨hi1, rfl⟩ := List.getElem?_eq_some_iff.1 hi
  obtain ⟨hj1, rfl⟩ := List.getElem?_eq_some_iff.1 hj
  have one : ∀ (l : List α) (k : Nat) (hk : k < l.length), (l.Perm (l.eraseIdx k ++ [l[k]])) ∧ ∀ x, ((l.set k x).Perm (l.eraseIdx k ++ [x])) := fun l k hk => by
    have e : l = l.take k ++ l[k] :: l.drop (k + 1) := by rw [List.getElem_cons_drop]; simp
    have e2 : l.eraseIdx k = l.take k ++ l.drop (k + 1) := List.eraseIdx_eq_take_drop_succ ..
    refine ⟨?_, fun x => ?_⟩
    · rw [e2]
      conv => lhs; rw [e]
      rw [List.append_assoc]
      exact List.Perm.append_left _ (List.perm_append_comm (l₁ := [l[k]]))
    · rw [e2, List.set_eq_take_append_cons_drop, if_pos hk, List.append_assoc]
      exact List.Perm.append_left _ (List.perm_append_comm (l₁ := [x]))
  have hl : (h.eraseIdx i).length = h.length - 1 := by rw [List.length_eraseIdx, if_pos hi1]
  have fin : ∀ (j' : Nat), j' < (h.eraseIdx i).length → (h.eraseIdx i)[j']? = some h[j] → (∀ q, (h.set j q).eraseIdx i = (h.eraseIdx i).set j' q) → ∃ r, h.Perm (r ++ [h[i], h[j]]) ∧ ∀ p q, (r ++ [p, q]).Perm ((h.set i p).set j q) := by
    intro j' hj' hb hs
    have hb' : (h.eraseIdx i)[j'] = h[j] := by rw [List.getElem?_eq_getElem hj'] at hb; injection hb
    have o1 := one h i hi1
    have o2 := one (h.eraseIdx i) j' hj'
    rw [hb'] at o2
    refine ⟨(h.eraseIdx i).eraseIdx j', ?_, fun p q => ?_⟩
    · refine o1.1.trans ((List.Perm.append_right _ o2.1).trans ?_)
      rw [List.append_assoc]
      exact List.Perm.append_left _ (List.perm_append_comm (l₁ := [h[j]]) (l₂ := [h[i]]))
    · have o3 := (one (h.set j q) i (by simpa using hi1)).2 p
      rw [hs q] at o3
      rw [List.set_comm _ _ hij]
      refine List.Perm.symm (o3.trans ((List.Perm.append_right _ (o2.2 q)).trans ?_))
      rw [List.append_assoc]
      exact List.Perm.append_left _ (List.perm_append_comm (l₁ := [q]) (l₂ := [p]))
  rcases Nat.lt_or_ge j i with hlt | hge
  · refine fin j (by omega) ?_ fun q => List.eraseIdx_set_gt hlt
    rw [List.getElem?_eraseIdx, if_pos hlt]; exact List.getElem?_eq_getElem hj1
  · have hgt : i < j := by omega
    refine fin (j - 1) (by omega) ?_ fun q => List.eraseIdx_set_lt hgt
    rw [List.getElem?_eraseIdx, if_neg (by omega), show j - 1 + 1 = j by omega]; exact List.getElem?_eq_getElem hj1

end
end Go.Proofs.Ytmhkalalcmkpbaa

namespace Go.Proofs.Ytmhkalalcmkpbaa
open Go Go.RowKit
set_option linter.unusedVariables false
set_option linter.unusedSimpArgs false

/-- A string's bytes, cell by cell. -/
def strA (s : ByteArray) : List AV := s.data.toList.map fun b => AV.x (.int .u8 b.toNat)
section
variable {P : Program} {K : Prop} {N : Nat} {X : Nat → Prop} {h : List HObj} {f : Nat → AV} {o : Oper}
theorem p_nilCheck {x : Operand} {ad : Addr} (ho : o.op = .nilCheck x) (hx : evalT f x = .x (.pointer (some ad))) : PureOp P K N X h f o (.x (.pointer (some ad))) := pure_run fun a w w0 env H => by
  rw [ho] at H
  have h1 := H x (by simp [Op.operands])
  rw [hx, rep_x] at h1
  exact ⟨_, by simp [execOp, ho, h1], rep_x.2 rfl⟩
end

section
variable {P : Program} {C : Cx} {Q : Exit → AS → Prop} {f : Nat → AV} {h : List HObj} {ops : Array Oper} {o : Oper} {rest : List Oper}

/-- What an operation calls, and with what. -/
def Enters (P : Program) (C : Cx) (f : Nat → AV) (h : List HObj) (o : Oper) (g : FuncId) (avs : List AV) : Prop :=
  ∀ (a : Act) (w : World), C.St ⟨f, h⟩ a w → ∃ args, (execOp a.eval o).run P w = .ok (.enter g args) w ∧ args.size = avs.length ∧ RepC (owned C.X h) w avs (fun j => args[j]?)
theorem enters_fn {g : FuncId} {x : Operand} {cs : List AV} {xs : Array Operand} {ts : Array TypeId} {avs : List AV} (he : ∀ (args : Array Value) (w : World), (callFunc g args).run P w = .ok (.enter g args) w) (ho : o.op = .call { callee := .value x, args := xs, argTypes := ts }) (hx : evalT f x = .fn g cs) (hs : SubL (xs.toList.map (evalT f) ++ cs) avs) : Enters P C f h o g avs := fun a w hst => by
  have h0 := hst.slots.eval x
  simp only at h0
  rw [hx] at h0
  simp only [Rep] at h0
  obtain ⟨us, h0, h01, h02⟩ := h0
  refine ⟨xs.map a.eval ++ us, by simp [execOp, ho, resolve, h0, Deferred.ofValue, invoke, he], by rw [← hs.len]; simp [h01], ?_⟩
  have hR : RepC (owned C.X h) w avs (fun j => (xs.toList.map a.eval ++ us.toList)[j]?) := by
    refine hs.repC (RepC.mk fun j c hj => ?_)
    rw [List.getElem?_append] at hj ⊢
    simp only [List.length_map] at hj ⊢
    split at hj
    · rename_i hlt
      rw [if_pos hlt]
      rw [List.getElem?_map, Option.map_eq_some_iff] at hj
      obtain ⟨y, hy, rfl⟩ := hj
      exact ⟨a.eval y, by simp [List.getElem?_map, hy], hst.slots.eval y⟩
    · rename_i hlt
      rw [if_neg hlt]
      obtain ⟨u, hu, hru⟩ := h02.at_ _ c hj
      exact ⟨u, Array.getElem?_toList.trans hu, hru⟩
  have e : (fun j => (xs.map a.eval ++ us)[j]?) = (fun j => (xs.toList.map a.eval ++ us.toList)[j]?) := funext fun j => by
    rw [← Array.getElem?_toList, Array.toList_append, Array.toList_map]
  rw [e]; exact hR

/-- A call, however it is told, that is handed the last ones of the caller's own blocks. -/
theorem sMsE {g : FuncId} {avs : List AV} {h1 hs : List HObj} {R : AV → List HObj → Prop} (hg : o.guard = none) (hE : Enters P C f (h1 ++ hs) o g avs) (hp : MFn P C.w0.K g avs hs R)
    (k : ∀ av hs', R av hs' → WL none P C ops Q rest ⟨putT C.N f o.dst av, h1 ++ hs'⟩) : WL none P C ops Q (o :: rest) ⟨f, h1 ++ hs⟩ := by
  refine ⟨fun a w hst => wpList_plain hg fun K hK => ?_⟩
  have env := hst.env
  simp only at env
  obtain ⟨args, hrun, hl, hR1⟩ := hE a w hst
  unfold Oper.wp
  rw [hrun]
  simp only [Oper.upon]
  have cross : ∀ (o p : HObj) b, o ∈ h1 → p ∈ hs → o.blk = some b → p.blk = some b → False := fun o p b h2 h3 h4 h5 => by
    have := List.pairwise_append.1 (pw_of.1 env.apart)
    exact this.2.2 o h2 p h3 b h4 h5
  have hXne : ∀ b, C.X b → ∀ o ∈ h1 ++ hs, o.blk ≠ some b := fun b hx o ho hob => by
    have h5 := env.ext b hx
    rcases env.new o ho b hob with h6 | h6
    · omega
    · exact h5.2 h6
  let O' : Nat → Prop := owned C.X h1
  have hsub1 : ∀ b, owned O' hs b → owned C.X (h1 ++ hs) b := fun b hb => by
    rcases hb with (hx | ⟨o, ho, hob⟩) | ⟨o, ho, hob⟩
    · exact .inl hx
    · exact .inr ⟨o, List.mem_append_left _ ho, hob⟩
    · exact .inr ⟨o, List.mem_append_right _ ho, hob⟩
  have pws := List.pairwise_append.1 (pw_of.1 env.apart)
  have env0 : Env O' ⟨w, fun b => ∃ o ∈ hs, o.blk = some b, C.w0.K⟩ hs w := by
    refine ⟨Chg.refl _ _ _, fun o ho => ?_, fun o ho b hob => .inr ⟨o, ho, hob⟩, fun o ho b hob => env.lt o (List.mem_append_right _ ho) b hob, fun b hb => ⟨owned_lt env (hsub1 b (.inl hb)), fun ⟨o, ho, hob⟩ => ?_⟩, pw_of.2 pws.2.1⟩
    · exact HObj.ok_mono (env.objs o (List.mem_append_right _ ho)) (Kept.refl _ _) (fun b _ hb => hsub1 b hb) fun _ _ => rfl
    · rcases hb with hx | ⟨p, hp, hpb⟩
      · exact hXne b hx o (List.mem_append_right _ ho) hob
      · exact cross p o b hp ho hpb hob
  refine (hp.calls O' w args env0 hl ?_).mono ?_
  · exact RepC.mono (Kept.refl _ _) (fun b _ hb => hsub1 b hb) _ _ hR1
  · rintro e w' ⟨r, av, hs', rfl, h2, env', h4⟩
    have hF : ∀ b, b < w.heap.size → ∀ p ∈ hs', p.blk = some b → ∃ o ∈ hs, o.blk = some b := fun b hb p hp hpb => by
      rcases env'.new p hp b hpb with h5 | h5
      · simp only at h5; omega
      · exact h5
    have hO : ∀ b, b < w.heap.size → owned C.X (h1 ++ hs') b → owned C.X (h1 ++ hs) b := fun b hb hx => by
      rcases hx with hx | ⟨p, hp, hpb⟩
      · exact .inl hx
      · rcases List.mem_append.1 hp with hp | hp
        · exact .inr ⟨p, List.mem_append_left _ hp, hpb⟩
        · obtain ⟨o, ho, hob⟩ := hF b hb p hp hpb
          exact .inr ⟨o, List.mem_append_right _ ho, hob⟩
    have hkeep : Kept (owned C.X (h1 ++ hs)) w w' := ⟨env'.below.size, fun b hb hne => env'.below.block b hb fun ⟨o, ho, hob⟩ => hne (.inr ⟨o, List.mem_append_right _ ho, hob⟩)⟩
    have hsub2 : ∀ b, owned C.X (h1 ++ hs') b → owned O' hs' b := fun b hb => by
      rcases hb with hx | ⟨o, ho, hob⟩
      · exact .inl (.inl hx)
      · rcases List.mem_append.1 ho with ho | ho
        · exact .inl (.inr ⟨o, ho, hob⟩)
        · exact .inr ⟨o, ho, hob⟩
    have env2 : Env C.X C.w0 (h1 ++ hs') w' := by
      refine ⟨?_, fun o ho => ?_, fun o ho b hob => ?_, fun o ho b hob => ?_, env.ext, pw_of.2 (List.pairwise_append.2 ⟨pws.1, pw_of.1 env'.apart, fun o ho p hp b hob hpb => ?_⟩)⟩
      · refine ⟨env'.below.os.trans env.below.os, env'.below.tape.trans env.below.tape, env'.below.output.trans env.below.output, Nat.le_trans env.below.size env'.below.size, fun b hb hf => (env'.below.block b (Nat.lt_of_lt_of_le hb env.below.size) fun ⟨o, ho, hob⟩ => ?_).trans (env.below.block b hb hf), fun hk => Nat.le_trans (env.below.drawn hk) (env'.below.drawn hk)⟩
        rcases env.new o (List.mem_append_right _ ho) b hob with h5 | h5
        · omega
        · exact hf h5
      · rcases List.mem_append.1 ho with ho | ho
        · refine HObj.ok_mono (env.objs o (List.mem_append_left _ ho)) hkeep hO fun b hob => env'.below.block b (env.lt o (List.mem_append_left _ ho) b hob) fun ⟨p, hp, hpb⟩ => cross o p b ho hp hob hpb
        · exact HObj.ok_mono (env'.objs o ho) (Kept.refl _ _) (fun b _ hb' => hsub2 b hb') fun _ _ => rfl
      · rcases List.mem_append.1 ho with ho | ho
        · exact env.new o (List.mem_append_left _ ho) b hob
        · rcases env'.new o ho b hob with h5 | ⟨p, hp, hpb⟩
          · exact .inl (Nat.le_trans env.below.size h5)
          · exact env.new p (List.mem_append_right _ hp) b hpb
      · rcases List.mem_append.1 ho with ho | ho
        · exact Nat.lt_of_lt_of_le (env.lt o (List.mem_append_left _ ho) b hob) env'.below.size
        · exact env'.lt o ho b hob
      · obtain ⟨q, hq, hqb⟩ := hF b (env.lt o (List.mem_append_left _ ho) b hob) p hp hpb
        exact cross o q b ho hq hob hqb
    refine hK _ _ ((k av hs' h2).run _ _ ⟨env2, ?_⟩)
    exact (hst.slots.mono hkeep hO).put o.dst (Rep.mono (Kept.refl _ w') (fun b _ hb' => hsub2 b hb') _ _ h4)

/-- A call of a function value that is handed two of the caller's own blocks. -/
theorem sM2f {g : FuncId} {x : Operand} {cs : List AV} {xs : Array Operand} {ts : Array TypeId} {avs : List AV} {oa ob : HObj} {R : AV → List HObj → Prop} (i j : Nat) (hij : i ≠ j) (hg : o.guard = none) (ho : o.op = .call { callee := .value x, args := xs, argTypes := ts }) (hx : evalT f x = .fn g cs) (hi : h[i]? = some oa) (hj : h[j]? = some ob) (hp : MFn P C.w0.K g avs [oa, ob] R) (hs : SubL (xs.toList.map (evalT f) ++ cs) avs)
    (hR : ∀ av h', R av h' → ∃ p q, h' = [p, q])
    (k : ∀ av p q, R av [p, q] → WL none P C ops Q rest ⟨putT C.N f o.dst av, (h.set i p).set j q⟩) : WL none P C ops Q (o :: rest) ⟨f, h⟩ := by
  obtain ⟨r, h1, h2⟩ := split2 hij hi hj
  refine lPerm _ h1 (sMsE hg (enters_fn hp.enter ho hx hs) hp fun av hs' hr => ?_)
  obtain ⟨p, q, rfl⟩ := hR av hs' hr
  exact lPerm _ (h2 p q) (k av p q hr)

end
end Go.Proofs.Ytmhkalalcmkpbaa
