/-
  A5
-/
import Derived.Test.YtpehmadeklaebaaZA4
namespace Go.Proofs.Ytpehmadeklaebaa
open Go Go.RowKit
set_option linter.unusedVariables false
set_option linter.unusedSimpArgs false

section
variable {P : Program} {K : Prop} {N : Nat} {X : Nat → Prop} {h : List HObj} {f : Nat → AV} {o : Oper}

theorem add_plain (g a j : Nat) : (⟨g, a, none⟩ : Addr).add j = ⟨g, a + j, none⟩ := by
  unfold Addr.add; split
  · rename_i h; subst h; rfl
  · rfl
theorem tyOf_spec {t : TypeId} {b : Bool} {k : Nat} (ht : tyOf P t = some (b, k)) : ∃ d i, P.underlying t = some d ∧ P.info? t = some i ∧ i.size = k ∧ (match d with | .struct _ | .array _ _ => true | _ => false) = b := by
  unfold tyOf at ht
  cases hd : P.underlying t with
  | none => simp [hd] at ht
  | some d =>
    cases hi : P.info? t with
    | none => simp [hd, hi] at ht
    | some i =>
      simp only [hd, hi, Option.some.injEq, Prod.mk.injEq] at ht
      exact ⟨d, i, rfl, rfl, ht.2, ht.1⟩
theorem run_sizeOf_ {t : TypeId} {b : Bool} {k : Nat} (ht : tyOf P t = some (b, k)) (w : World) : (sizeOf t).run P w = .ok k w := by
  obtain ⟨d, i, h1, h2, h3, h4⟩ := tyOf_spec ht
  simp [sizeOf, typeInfo, h2, h3]
theorem run_isAgg_ {t : TypeId} {b : Bool} {k : Nat} (ht : tyOf P t = some (b, k)) (w : World) : (isAgg t).run P w = .ok b w := by
  obtain ⟨d, i, h1, h2, h3, h4⟩ := tyOf_spec ht
  unfold isAgg
  rw [Sem.run_bind, run_underlying h1 w]
  subst h4
  cases d <;> simp
theorem tyField_spec {t : TypeId} {j off : Nat} {u : TypeId} (ht : tyField P t j = some (off, u)) : ∃ fs fd, P.underlying t = some (.struct fs) ∧ fs[j]? = some fd ∧ fd.offset = off ∧ fd.type = u := by
  unfold tyField tyFields at ht
  cases hd : P.underlying t with
  | none => simp [hd] at ht
  | some d =>
    cases d <;> simp [hd] at ht
    rename_i fs
    obtain ⟨fd, hfd, h1, h2⟩ := ht
    exact ⟨fs, fd, rfl, hfd, h1, h2⟩

/-- The values that stand from place off on. -/
theorem RepC.drop {O : Nat → Prop} {w : World} : ∀ {cs : List AV} {g : Nat → Option Value}, RepC O w cs g → ∀ n, RepC O w (cs.drop n) (fun j => g (n + j))
  | cs, g, hh, n => RepC.mk fun j c hj => by
    rw [List.getElem?_drop] at hj
    exact hh.at_ _ c hj
theorem RepC.take {O : Nat → Prop} {w : World} {cs : List AV} {g : Nat → Option Value} (hh : RepC O w cs g) (n : Nat) : RepC O w (cs.take n) g := RepC.mk fun j c hj => by
  rw [List.getElem?_take] at hj
  split at hj
  · exact hh.at_ _ c hj
  · cases hj
/-- A load out of cells that mean cs. -/
theorem run_load_c {O : Nat → Prop} {w : World} {t : TypeId} {b : Bool} {k : Nat} {a : Addr} {cs : List AV} {av : AV} (ht : tyOf P t = some (b, k)) (hc : RepC O w cs (fun j => w.cell? (a.add j)))
    (hav : (b = true ∧ k ≤ cs.length ∧ av = .agg (cs.take k)) ∨ (b = false ∧ cs[0]? = some av)) : ∃ v, (loadVar t a).run P w = .ok v w ∧ Rep O w av v := by
  unfold loadVar
  rw [Sem.run_bind, run_isAgg_ ht]
  rcases hav with ⟨rfl, hk, rfl⟩ | ⟨rfl, hav⟩
  · simp only [Result.andThen_ok, if_true, Sem.run_bind, run_sizeOf_ ht]
    have hall : ∀ j, j < k → ∃ u, w.cell? (a.add j) = some u := fun j hj => by
      obtain ⟨u, hu, _⟩ := hc.at_ j (cs[j]'(by omega)) (List.getElem?_eq_getElem (by omega))
      exact ⟨u, hu⟩
    have hf : ∀ j, j < k → w.cell? (a.add j) = some ((w.cell? (a.add j)).getD undef) := fun j hj => by
      obtain ⟨u, hu⟩ := hall j hj
      rw [hu]; rfl
    have := run_loadCells (P := P) w a k (fun j => (w.cell? (a.add j)).getD undef) hf
    rw [this]
    refine ⟨_, rfl, ?_⟩
    simp only [Rep]
    refine ⟨_, rfl, by simp [Nat.min_eq_left hk], RepC.mk fun j c hj => ?_⟩
    have hjk : j < k := by
      have := (List.getElem?_eq_some_iff.1 hj).1
      simp at this; omega
    obtain ⟨u, hu, hr⟩ := (hc.take k).at_ j c hj
    exact ⟨u, by simp [hjk, hu], hr⟩
  · obtain ⟨u, hu, hr⟩ := hc.at_ 0 av hav
    have e : a.add 0 = a := rfl
    rw [e] at hu
    refine ⟨u, by simp [hu], hr⟩

/-- A place in a block of the call's own. -/
theorem own_cells {w : World} {w0 : Orig} (env : Env X w0 h w) {g : Nat} {T : TypeId} {cs : List AV} (hm : HObj.cells g T cs ∈ h) (off : Nat) : RepC (owned X h) w (cs.drop off) (fun j => w.cell? ((⟨g, off, none⟩ : Addr).add j)) := by
  obtain ⟨us, h1, h2, h3⟩ := env.objs _ hm
  have := h3.drop off
  have e : (fun j => w.cell? ((⟨g, off, none⟩ : Addr).add j)) = (fun j => us[off + j]?) := funext fun j => by
    rw [add_plain]; exact cell_of_row w g (off + j) us T (0, 0) h1
  rw [e]; exact this

theorem p_load_own {t : TypeId} {x : Operand} {g off : Nat} {T : TypeId} {cs : List AV} {b : Bool} {k : Nat} {av : AV} (ho : o.op = .load t x) (hx : evalT f x = .x (.pointer (some ⟨g, off, none⟩))) (hm : HObj.cells g T cs ∈ h) (ht : tyOf P t = some (b, k))
    (hav : (b = true ∧ k ≤ (cs.drop off).length ∧ av = .agg ((cs.drop off).take k)) ∨ (b = false ∧ (cs.drop off)[0]? = some av)) : PureOp P K N X h f o av := pure_run fun a w w0 env H => by
  rw [ho] at H
  have h1 := H x (by simp [Op.operands])
  rw [hx, rep_x] at h1
  obtain ⟨v, hv, hr⟩ := run_load_c ht (own_cells env hm off) hav
  exact ⟨v, by simp [execOp, ho, h1, Instr.loadAt, Instr.sureAddr, hv], hr⟩
theorem p_load_ip {t : TypeId} {x : Operand} {cs : List AV} {b : Bool} {k : Nat} {av : AV} (ho : o.op = .load t x) (hx : evalT f x = .ip cs) (ht : tyOf P t = some (b, k))
    (hav : (b = true ∧ k ≤ cs.length ∧ av = .agg (cs.take k)) ∨ (b = false ∧ cs[0]? = some av)) : PureOp P K N X h f o av := pure_run fun a w w0 env H => by
  rw [ho] at H
  have h1 := H x (by simp [Op.operands])
  rw [hx] at h1
  simp only [Rep] at h1
  obtain ⟨ad, e, _, _, hc⟩ := h1
  obtain ⟨v, hv, hr⟩ := run_load_c ht hc hav
  exact ⟨v, by simp [execOp, ho, e, Instr.loadAt, Instr.sureAddr, hv], hr⟩

theorem run_fieldAt {w : World} {t : TypeId} {j off : Nat} {u : TypeId} {b : Bool} {k : Nat} (hf : tyField P t j = some (off, u)) (hu : tyOf P u = some (b, k)) (hk : k ≠ 0) (a : Addr) : (Instr.fieldAt t (.pointer (some a)) j).run P w = .ok (.pointer (some (a.add off))) w := by
  obtain ⟨fs, fd, h1, h2, h3, h4⟩ := tyField_spec hf
  subst h3 h4
  simp only [Instr.fieldAt, Sem.run_bind, run_underlying h1, Result.andThen_ok, h2, Instr.sureAddr, Sem.run_pure]
  simp [fieldPlace, run_sizeOf_ hu, hk]
theorem p_fieldAddr_own {t : TypeId} {x : Operand} {j g off fo : Nat} {u : TypeId} {b : Bool} {k : Nat} (ho : o.op = .fieldAddr t x j) (hx : evalT f x = .x (.pointer (some ⟨g, off, none⟩))) (hf : tyField P t j = some (fo, u)) (hu : tyOf P u = some (b, k)) (hk : k ≠ 0) :
    PureOp P K N X h f o (.x (.pointer (some ⟨g, off + fo, none⟩))) := pure_run fun a w w0 env H => by
  rw [ho] at H
  have h1 := H x (by simp [Op.operands])
  rw [hx, rep_x] at h1
  refine ⟨_, ?_, rep_x.2 rfl⟩
  have := run_fieldAt (w := w) hf hu hk ⟨g, off, none⟩
  rw [add_plain] at this
  simp [execOp, ho, h1, this]
theorem p_fieldAddr_ip {t : TypeId} {x : Operand} {j fo : Nat} {cs : List AV} {u : TypeId} {b : Bool} {k : Nat} (ho : o.op = .fieldAddr t x j) (hx : evalT f x = .ip cs) (hf : tyField P t j = some (fo, u)) (hu : tyOf P u = some (b, k)) (hk : k ≠ 0) :
    PureOp P K N X h f o (.ip (cs.drop fo)) := pure_run fun a w w0 env H => by
  rw [ho] at H
  have h1 := H x (by simp [Op.operands])
  rw [hx] at h1
  simp only [Rep] at h1
  obtain ⟨ad, e, h2, h3, hc⟩ := h1
  refine ⟨_, by simp [execOp, ho, e, run_fieldAt (w := w) hf hu hk ad]; rfl, ?_⟩
  simp only [Rep]
  refine ⟨_, rfl, by rw [block_of_add]; exact h2, by rw [block_of_add]; exact h3, ?_⟩
  have := hc.drop fo
  have e : (fun j => w.cell? ((ad.add fo).add j)) = (fun j => w.cell? (ad.add (fo + j))) := funext fun j => by rw [add_of_add]
  rw [e]; exact this

theorem p_indexAddr_arr {t e : TypeId} {x y : Operand} {g off n i k : Nat} {b : Bool} {ik : IntKind} {z : Int} (ho : o.op = .indexAddr t x y) (hx : evalT f x = .x (.pointer (some ⟨g, off, none⟩))) (ht : P.underlying t = some (.array n e)) (he : tyOf P e = some (b, k))
    (hy : evalT f y = .x (.int ik z)) (hz : z = (i : Int)) (hi : i < n) : PureOp P K N X h f o (.x (.pointer (some ⟨g, off + i * k, none⟩))) := pure_run fun a w w0 env H => by
  rw [ho] at H
  have h1 := H x (by simp [Op.operands])
  have h2 := H y (by simp [Op.operands])
  rw [hx, rep_x] at h1
  rw [hy, rep_x] at h2
  subst hz
  refine ⟨_, ?_, rep_x.2 rfl⟩
  simp only [execOp, ho, h1, h2, Instr.indexAt, asIntOf, Sem.run_bind, Sem.run_pure, Result.andThen_ok, run_underlying ht, Instr.sureAddr]
  have : (0 : Int) ≤ (i : Int) ∧ (i : Int) < (n : Int) := by omega
  simp [this, run_sizeOf_ he, add_plain, hi]
theorem p_indexAddr_sl {t e : TypeId} {x y : Operand} {k n i : Nat} {cs : List AV} {b : Bool} {ik : IntKind} {z : Int} (ho : o.op = .indexAddr t x y) (hx : evalT f x = .sl k n cs) (ht : P.underlying t = some (.slice e)) (he : tyOf P e = some (b, k)) (hk : k ≠ 0)
    (hy : evalT f y = .x (.int ik z)) (hz : z = (i : Int)) (hi : i < n) : PureOp P K N X h f o (.ip (cs.drop (i * k))) := pure_run fun a w w0 env H => by
  rw [ho] at H
  have h1 := H x (by simp [Op.operands])
  have h2 := H y (by simp [Op.operands])
  rw [hx] at h1
  rw [hy, rep_x] at h2
  subst hz
  simp only [Rep] at h1
  obtain ⟨hl, A, c, e1, hnc, hcm, hor⟩ := h1
  rcases hor with h0 | ⟨ad, rfl, hb, hO, hc⟩
  · rcases Nat.mul_eq_zero.1 h0 with h0 | h0
    · omega
    · exact absurd h0 hk
  · refine ⟨.pointer (some (ad.add (i * k))), ?_, ?_⟩
    · simp only [execOp, ho, e1, h2, Instr.indexAt, asIntOf, Sem.run_bind, Sem.run_pure, Result.andThen_ok, run_underlying ht, Instr.sureAddr]
      have : (0 : Int) ≤ (i : Int) ∧ (i : Int) < (n : Int) := by omega
      simp [this, run_sizeOf_ he, hi]
    · simp only [Rep]
      refine ⟨_, rfl, by rw [block_of_add]; exact hb, by rw [block_of_add]; exact hO, ?_⟩
      have := hc.drop (i * k)
      have e : (fun j => w.cell? ((ad.add (i * k)).add j)) = (fun j => w.cell? (ad.add (i * k + j))) := funext fun j => by rw [add_of_add]
      rw [e]; exact this

/-- A part of a struct or an array. -/
theorem run_part {O : Nat → Prop} {w : World} {t : TypeId} {b : Bool} {k off : Nat} {us : Array Value} {cs : List AV} {av : AV} (ht : tyOf P t = some (b, k)) (hs : us.size = cs.length) (hc : RepC O w cs (fun j => us[j]?))
    (hav : (b = true ∧ off + k ≤ cs.length ∧ av = .agg ((cs.drop off).take k)) ∨ (b = false ∧ cs[off]? = some av)) : ∃ v, (part t us off).run P w = .ok v w ∧ Rep O w av v := by
  unfold part
  rw [Sem.run_bind, run_isAgg_ ht]
  rcases hav with ⟨rfl, hk, rfl⟩ | ⟨rfl, hav⟩
  · simp only [Result.andThen_ok, if_true, Sem.run_bind, run_sizeOf_ ht, Sem.run_pure]
    refine ⟨_, rfl, ?_⟩
    simp only [Rep]
    refine ⟨_, rfl, by simp; omega, RepC.mk fun j c hj => ?_⟩
    obtain ⟨u, hu, hr⟩ := ((hc.drop off).take k).at_ j c hj
    have hjk : j < k := by
      have := (List.getElem?_eq_some_iff.1 hj).1
      simp at this; omega
    refine ⟨u, ?_, hr⟩
    rw [Array.getElem?_extract]
    rw [if_pos (by omega)]
    exact hu
  · obtain ⟨u, hu, hr⟩ := hc.at_ off av hav
    have hu' : us[off]? = some u := hu
    exact ⟨u, by simp [hu'], hr⟩
theorem p_field {t : TypeId} {x : Operand} {j off : Nat} {u : TypeId} {cs : List AV} {b : Bool} {k : Nat} {av : AV} (ho : o.op = .field t x j) (hx : evalT f x = .agg cs) (hf : tyField P t j = some (off, u)) (hu : tyOf P u = some (b, k))
    (hav : (b = true ∧ off + k ≤ cs.length ∧ av = .agg ((cs.drop off).take k)) ∨ (b = false ∧ cs[off]? = some av)) : PureOp P K N X h f o av := pure_run fun a w w0 env H => by
  rw [ho] at H
  have h1 := H x (by simp [Op.operands])
  rw [hx] at h1
  simp only [Rep] at h1
  obtain ⟨us, e, hs, hc⟩ := h1
  obtain ⟨fs, fd, g1, g2, g3, g4⟩ := tyField_spec hf
  subst g3 g4
  obtain ⟨v, hv, hr⟩ := run_part hu hs hc hav
  exact ⟨v, by simp [execOp, ho, e, Instr.field, run_underlying g1, g2, asAgg, hv], hr⟩
theorem p_index_arr {t e : TypeId} {x y : Operand} {n i k : Nat} {cs : List AV} {b : Bool} {ik : IntKind} {z : Int} {av : AV} (ho : o.op = .index t x y) (hx : evalT f x = .agg cs) (ht : P.underlying t = some (.array n e)) (he : tyOf P e = some (b, k))
    (hy : evalT f y = .x (.int ik z)) (hz : z = (i : Int)) (hi : i < n) (hav : (b = true ∧ i * k + k ≤ cs.length ∧ av = .agg ((cs.drop (i * k)).take k)) ∨ (b = false ∧ cs[i * k]? = some av)) : PureOp P K N X h f o av := pure_run fun a w w0 env H => by
  rw [ho] at H
  have h1 := H x (by simp [Op.operands])
  have h2 := H y (by simp [Op.operands])
  rw [hx] at h1
  rw [hy, rep_x] at h2
  subst hz
  simp only [Rep] at h1
  obtain ⟨us, e1, hs, hc⟩ := h1
  obtain ⟨v, hv, hr⟩ := run_part he hs hc hav
  refine ⟨v, ?_, hr⟩
  simp only [execOp, ho, e1, h2, Instr.index, asIntOf, Sem.run_bind, Sem.run_pure, Result.andThen_ok, run_underlying ht]
  have : (0 : Int) ≤ (i : Int) ∧ (i : Int) < (n : Int) := by omega
  simp [this, run_sizeOf_ he, hi, hv]
theorem p_index_str {t : TypeId} {x y : Operand} {i : Nat} {s : ByteArray} {ik : IntKind} {z : Int} {c : UInt8} (ho : o.op = .index t x y) (hx : evalT f x = .x (.string s)) (ht : P.underlying t = some .string)
    (hy : evalT f y = .x (.int ik z)) (hz : z = (i : Int)) (hi : s[i]? = some c) : PureOp P K N X h f o (.x (.int .u8 c.toNat)) := pure_run fun a w w0 env H => by
  rw [ho] at H
  have h1 := H x (by simp [Op.operands])
  have h2 := H y (by simp [Op.operands])
  rw [hx, rep_x] at h1
  rw [hy, rep_x] at h2
  subst hz
  refine ⟨_, ?_, rep_x.2 rfl⟩
  simp only [execOp, ho, h1, h2, Instr.index, asIntOf, Sem.run_bind, Sem.run_pure, Result.andThen_ok, run_underlying ht]
  simp [hi]

theorem p_len_sl {t e : TypeId} {x : Operand} {k n : Nat} {cs : List AV} (ho : o.op = .call { callee := .builtin .len, args := #[x], argTypes := #[t] }) (hx : evalT f x = .sl k n cs) (ht : P.underlying t = some (.slice e)) : PureOp P K N X h f o (.x (.int .i64 n)) := pure_run fun a w w0 env H => by
  rw [ho] at H
  have h1 := H x (by simp [Op.operands, Call.operands])
  rw [hx] at h1
  simp only [Rep] at h1
  obtain ⟨hl, A, c, e1, hnc, hcm, hor⟩ := h1
  exact ⟨_, by simp [execOp, ho, resolve, invoke, builtin, Builtin.len_, run_underlying ht, e1, goInt], rep_x.2 rfl⟩
theorem p_len_x {t e : TypeId} {x : Operand} {A : Option Addr} {n c : Nat} (ho : o.op = .call { callee := .builtin .len, args := #[x], argTypes := #[t] }) (hx : evalT f x = .x (.slice A n c)) (ht : P.underlying t = some (.slice e)) : PureOp P K N X h f o (.x (.int .i64 n)) := pure_run fun a w w0 env H => by
  rw [ho] at H
  have h1 := H x (by simp [Op.operands, Call.operands])
  rw [hx, rep_x] at h1
  exact ⟨_, by simp [execOp, ho, resolve, invoke, builtin, Builtin.len_, run_underlying ht, h1, goInt], rep_x.2 rfl⟩
theorem p_len_row {t e e' : TypeId} {x : Operand} {v : Value} {k n : Nat} {cs : List AV} (ho : o.op = .call { callee := .builtin .len, args := #[x], argTypes := #[t] }) (hx : evalT f x = .x v) (hm : HObj.row v e' k n cs ∈ h) (ht : P.underlying t = some (.slice e)) : PureOp P K N X h f o (.x (.int .i64 n)) := pure_run fun a w w0 env H => by
  rw [ho] at H
  have h1 := H x (by simp [Op.operands, Call.operands])
  rw [hx, rep_x] at h1
  obtain ⟨vs, ho', _⟩ := env.objs _ hm
  have hv : ∃ A c, v = .slice A n c := by
    rcases ho'.2 with ⟨rfl, rfl⟩ | ⟨g, cap, cur, rfl, _⟩
    · exact ⟨none, 0, rfl⟩
    · exact ⟨_, cap, rfl⟩
  obtain ⟨A, c, rfl⟩ := hv
  exact ⟨_, by simp [execOp, ho, resolve, invoke, builtin, Builtin.len_, run_underlying ht, h1, goInt], rep_x.2 rfl⟩
theorem p_len_str {t : TypeId} {x : Operand} {s : ByteArray} (ho : o.op = .call { callee := .builtin .len, args := #[x], argTypes := #[t] }) (hx : evalT f x = .x (.string s)) (ht : P.underlying t = some .string) : PureOp P K N X h f o (.x (.int .i64 s.size)) := pure_run fun a w w0 env H => by
  rw [ho] at H
  have h1 := H x (by simp [Op.operands, Call.operands])
  rw [hx, rep_x] at h1
  exact ⟨_, by simp [execOp, ho, resolve, invoke, builtin, Builtin.len_, run_underlying ht, h1, goInt], rep_x.2 rfl⟩
theorem p_min {t t' : TypeId} {x y : Operand} {k : IntKind} {a b : Int} (ho : o.op = .call { callee := .builtin .min, args := #[x, y], argTypes := #[t, t'] }) (hx : evalT f x = .x (.int k a)) (hy : evalT f y = .x (.int k b)) : PureOp P K N X h f o (.x (.int k (min a b))) := pure_run fun ac w w0 env H => by
  rw [ho] at H
  have h1 := H x (by simp [Op.operands, Call.operands])
  have h2 := H y (by simp [Op.operands, Call.operands])
  rw [hx, rep_x] at h1
  rw [hy, rep_x] at h2
  have : (if b < a then b else a) = min a b := by split <;> omega
  exact ⟨_, by simp [execOp, ho, resolve, invoke, builtin, Builtin.min_, Builtin.min2, h1, h2, this], rep_x.2 rfl⟩
theorem p_max {t t' : TypeId} {x y : Operand} {k : IntKind} {a b : Int} (ho : o.op = .call { callee := .builtin .max, args := #[x, y], argTypes := #[t, t'] }) (hx : evalT f x = .x (.int k a)) (hy : evalT f y = .x (.int k b)) : PureOp P K N X h f o (.x (.int k (max a b))) := pure_run fun ac w w0 env H => by
  rw [ho] at H
  have h1 := H x (by simp [Op.operands, Call.operands])
  have h2 := H y (by simp [Op.operands, Call.operands])
  rw [hx, rep_x] at h1
  rw [hy, rep_x] at h2
  have : (if b > a then b else a) = max a b := by split <;> omega
  exact ⟨_, by simp [execOp, ho, resolve, invoke, builtin, Builtin.max_, Builtin.max2, h1, h2, this], rep_x.2 rfl⟩
end
end Go.Proofs.Ytpehmadeklaebaa
