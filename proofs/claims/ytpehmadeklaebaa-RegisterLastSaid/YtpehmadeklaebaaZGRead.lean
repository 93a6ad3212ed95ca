/-
  ReadArg ReadS GRead
-/
import Derived.Test.YtpehmadeklaebaaZGSort
import Derived.Test.YtpehmadeklaebaaZMem2
import Derived.WalkKit
import Derived.ProofKit
import Derived.OpenShut
import Derived.Deep.Slices
namespace Go.Proofs.Ytpehmadeklaebaa
open Go.ChangeShapes Go.WideShapes Go.ChangeAt Go.RowKit Go.Deep
set_option linter.unusedVariables false
set_option linter.unusedSimpArgs false

theorem flatMap_len {α : Type} (f : α → List Value) (k : Nat) (hk : ∀ y, (f y).length = k) (l : List α) : (l.flatMap f).length = l.length * k := by
  induction l with
  | nil => simp
  | cons a l ih => rw [List.flatMap_cons, List.length_append, hk, ih, List.length_cons, Nat.succ_mul]; omega
theorem flatMap_get {α : Type} (f : α → List Value) (k : Nat) (hk : ∀ y, (f y).length = k) : ∀ (l : List α) (i r : Nat) (y : α), l[i]? = some y → r < k → (l.flatMap f)[i * k + r]? = (f y)[r]? := by
  intro l
  induction l with
  | nil => intro i r y h _; simp at h
  | cons a l ih =>
    intro i r y h hr
    rw [List.flatMap_cons]
    cases i with
    | zero =>
      obtain rfl : a = y := by simpa using h
      rw [Nat.zero_mul, Nat.zero_add, List.getElem?_append_left (by rw [hk]; exact hr)]
    | succ i =>
      rw [List.getElem?_append_right (by rw [hk, Nat.succ_mul]; omega), hk, show (i + 1) * k + r - k = i * k + r by rw [Nat.succ_mul]; omega]
      exact ih i r y (by simpa using h) hr
/-- A slice that came in, of a type whose elements read as k cells each. -/
theorem read_slice {H : Type} {enc : TypeId × Value → H} {P : Program} {W : World} {b0 : Nat} {sp : Nat → Bool} {hd : Bool} {t e : TypeId} {a : Option Addr} {len cap : Nat} {d : DataW H} {p : List MemPlace} {α : Type}
    (f : α → List Value) (k : Nat) (hk0 : 0 < k) (hk : ∀ y, (f y).length = k) (ht : P.underlying t = some (.slice e)) (hC : P.cellsOf e = k)
    (hel : ∀ (fuel : Nat) (cs : List Value) (x : DataW H × List MemPlace), DataW.trod enc P W b0 sp hd fuel e cs = some x → ∃ y, cs = f y)
    (h : DataW.Trod enc P W b0 sp hd t (.slice a len cap) d p) : ∃ xs : List α, xs.length = len ∧ Reads W W.heap.size k a len (xs.flatMap f) := by
  obtain ⟨fuel, hf⟩ := h
  rcases open_slice ht hf with ⟨hcs, _⟩ | ⟨x, l, c, m, n, D, Pl, hcs, hb, hl, hm, hmm, hx, hi⟩
  · simp [Value.cells] at hcs
    obtain ⟨rfl, rfl, rfl⟩ := hcs
    exact ⟨[], rfl, by simp, fun h => absurd h (by omega)⟩
  · simp [Value.cells] at hcs
    obtain ⟨rfl, rfl, rfl⟩ := hcs
    have hlm : len ≤ m := by rw [hmm]; split <;> omega
    have hex : ∀ i : Fin len, ∃ y, W.cells? b0 (x.add (i.val * k)) k = some (f y) := fun i => by
      obtain ⟨cs', hc, htr⟩ := hi i.val (by omega)
      rw [hC] at hc
      obtain ⟨y, rfl⟩ := hel _ _ _ htr
      exact ⟨y, hc⟩
    obtain ⟨g, hg⟩ := Classical.axiomOfChoice hex
    refine ⟨List.ofFn g, by simp, ?_, fun h0 => ⟨x, rfl, ?_, fun j u hj => ?_⟩⟩
    · rw [flatMap_len f k hk, List.length_ofFn]
    · have h1 := (World.cells?_some (hg ⟨0, h0⟩)).2.2 0 hk0
      rw [List.getElem?_eq_getElem (by rw [hk]; exact hk0)] at h1
      have := World.block_lt_of_cell? _ _ h1
      rwa [block_of_add, block_of_add] at this
    · have hjl : j < len * k := by
        rcases Nat.lt_or_ge j (len * k) with h' | h'
        · exact h'
        · rw [List.getElem?_eq_none (by rw [flatMap_len f k hk, List.length_ofFn]; exact h')] at hj; cases hj
      have hi0 : j / k < len := Nat.div_lt_of_lt_mul (by rw [Nat.mul_comm]; exact hjl)
      have hr0 : j % k < k := Nat.mod_lt _ hk0
      have hje : j / k * k + j % k = j := by rw [Nat.mul_comm]; exact Nat.div_add_mod j k
      have hget : (List.ofFn g)[j / k]? = some (g ⟨j / k, hi0⟩) := by simp [hi0]
      have h2 := flatMap_get f k hk (List.ofFn g) (j / k) (j % k) _ hget hr0
      rw [hje] at h2
      have h1 := (World.cells?_some (hg ⟨j / k, hi0⟩)).2.2 (j % k) hr0
      rw [add_of_add, hje] at h1
      rw [h1, ← h2, hj]
end Go.Proofs.Ytpehmadeklaebaa

namespace Go.Proofs.Ytpehmadeklaebaa
open Go Go.ChangeShapes Go.WideShapes Go.ChangeAt Go.RowKit
set_option linter.unusedVariables false
theorem slice_bounds {P : Program} {W : World} {r : Reach} {b : Nat} {t e : TypeId} {a : Option Addr} {len cap : Nat} (ht : P.underlying t = some (.slice e)) (h : Value.okWide P W r b t (.slice a len cap)) : len ≤ cap ∧ cap ≤ 9223372036854775807 := by
  simp only [Value.okWide, ht, Cell.okWide] at h
  cases a with
  | none => 
    cases len <;> cases cap <;> simp_all [Cell.ok]
  | some ad =>
    simp only [Cell.ok, ht] at h
    have h2 : (cap : Int) ≤ 9223372036854775807 := h.2.1
    exact ⟨h.1, by omega⟩
end Go.Proofs.Ytpehmadeklaebaa

namespace Go.Proofs.Ytpehmadeklaebaa.V
open Go.ChangeShapes Go.WideShapes Go.ChangeAt Go.RowKit Go.Deep
set_option linter.unusedVariables false
set_option linter.unusedSimpArgs false
def encD (d : DotT) : List Value := [.int .i64 d.1, .int .i64 d.2]
set_option maxRecDepth 100000 in
/-- The cells of one name. -/
theorem el_dot {H : Type} {enc : TypeId × Value → H} {W : World} {b0 : Nat} {sp : Nat → Bool} {hd : Bool} (fuel : Nat) (cs : List Value) (x : DataW H × List MemPlace)
    (h : DataW.trod enc Try.prog W b0 sp hd fuel 47 cs = some x) : ∃ y : Int × Int, cs = encD y := by
  obtain ⟨ys, n, _, hx, hlen, hyl, hf⟩ := DataW.trod_struct Try.underlying47 h
  have hC : Try.prog.cellsOf 47 = 2 := by kernel_rfl
  have hI : Try.prog.cellsOf 3 = 1 := by kernel_rfl
  rw [hC] at hlen
  match cs, hlen with
  | [c0, c1], _ =>
    match ys, hyl with
    | [y0, y1], _ =>
      have h0 : DataW.trod enc Try.prog W b0 sp hd n 3 ((([c0, c1] : List Value).drop 0).take (Try.prog.cellsOf 3)) = some y0 := hf 0 _ rfl
      have h1 : DataW.trod enc Try.prog W b0 sp hd n 3 ((([c0, c1] : List Value).drop 1).take (Try.prog.cellsOf 3)) = some y1 := hf 1 _ rfl
      rw [hI] at h0 h1
      obtain ⟨z0, e0, _⟩ := DataW.trod_int Try.underlying3 h0
      obtain ⟨z1, e1, _⟩ := DataW.trod_int Try.underlying3 h1
      simp at e0 e1
      exact ⟨(z0, z1), by rw [e0, e1]; rfl⟩
set_option maxRecDepth 100000 in
theorem el_stamp {H : Type} {enc : TypeId × Value → H} {W : World} {b0 : Nat} {sp : Nat → Bool} {hd : Bool} (fuel : Nat) (cs : List Value) (x : DataW H × List MemPlace)
    (h : DataW.trod enc Try.prog W b0 sp hd fuel 62 cs = some x) : ∃ a b c : Int, cs = [.int .i64 a, .int .i64 b, .int .i64 c] := by
  obtain ⟨ys, n, _, hx, hlen, hyl, hf⟩ := DataW.trod_struct Try.underlying62 h
  have hC : Try.prog.cellsOf 62 = 3 := by kernel_rfl
  have hI : Try.prog.cellsOf 3 = 1 := by kernel_rfl
  rw [hC] at hlen
  match cs, hlen with
  | [c0, c1, c2], _ =>
    match ys, hyl with
    | [y0, y1, y2], _ =>
      have h0 : DataW.trod enc Try.prog W b0 sp hd n 3 ((([c0, c1, c2] : List Value).drop 0).take (Try.prog.cellsOf 3)) = some y0 := hf 0 _ rfl
      have h1 : DataW.trod enc Try.prog W b0 sp hd n 3 ((([c0, c1, c2] : List Value).drop 1).take (Try.prog.cellsOf 3)) = some y1 := hf 1 _ rfl
      have h2 : DataW.trod enc Try.prog W b0 sp hd n 3 ((([c0, c1, c2] : List Value).drop 2).take (Try.prog.cellsOf 3)) = some y2 := hf 2 _ rfl
      rw [hI] at h0 h1 h2
      obtain ⟨z0, e0, _⟩ := DataW.trod_int Try.underlying3 h0
      obtain ⟨z1, e1, _⟩ := DataW.trod_int Try.underlying3 h1
      obtain ⟨z2, e2, _⟩ := DataW.trod_int Try.underlying3 h2
      simp at e0 e1 e2
      exact ⟨z0, z1, z2, by rw [e0, e1, e2]⟩
set_option maxRecDepth 100000 in
/-- The cells of one fact. -/
theorem el_fact {H : Type} {enc : TypeId × Value → H} {W : World} {b0 : Nat} {sp : Nat → Bool} {hd : Bool} (fuel : Nat) (cs : List Value) (x : DataW H × List MemPlace)
    (h : DataW.trod enc Try.prog W b0 sp hd fuel 64 cs = some x) : ∃ y : FactT, cs = encV y := by
  obtain ⟨ys, n, _, hx, hlen, hyl, hf⟩ := DataW.trod_struct Try.underlying64 h
  have hC : Try.prog.cellsOf 64 = 8 := by kernel_rfl
  have hI : Try.prog.cellsOf 3 = 1 := by kernel_rfl
  have hS : Try.prog.cellsOf 9 = 1 := by kernel_rfl
  have hD : Try.prog.cellsOf 47 = 2 := by kernel_rfl
  have hW : Try.prog.cellsOf 62 = 3 := by kernel_rfl
  rw [hC] at hlen
  match cs, hlen with
  | [c0, c1, c2, c3, c4, c5, c6, c7], _ =>
    match ys, hyl with
    | [y0, y1, y2, y3, y4], _ =>
      have h0 : DataW.trod enc Try.prog W b0 sp hd n 47 ((([c0, c1, c2, c3, c4, c5, c6, c7] : List Value).drop 0).take (Try.prog.cellsOf 47)) = some y0 := hf 0 _ rfl
      have h1 : DataW.trod enc Try.prog W b0 sp hd n 62 ((([c0, c1, c2, c3, c4, c5, c6, c7] : List Value).drop 2).take (Try.prog.cellsOf 62)) = some y1 := hf 1 _ rfl
      have h2 : DataW.trod enc Try.prog W b0 sp hd n 3 ((([c0, c1, c2, c3, c4, c5, c6, c7] : List Value).drop 5).take (Try.prog.cellsOf 3)) = some y2 := hf 2 _ rfl
      have h3 : DataW.trod enc Try.prog W b0 sp hd n 9 ((([c0, c1, c2, c3, c4, c5, c6, c7] : List Value).drop 6).take (Try.prog.cellsOf 9)) = some y3 := hf 3 _ rfl
      have h4 : DataW.trod enc Try.prog W b0 sp hd n 9 ((([c0, c1, c2, c3, c4, c5, c6, c7] : List Value).drop 7).take (Try.prog.cellsOf 9)) = some y4 := hf 4 _ rfl
      rw [hD] at h0
      rw [hW] at h1
      rw [hI] at h2
      rw [hS] at h3 h4
      obtain ⟨d, e0⟩ := el_dot _ _ _ h0
      obtain ⟨s1, s2, s3, e1⟩ := el_stamp _ _ _ h1
      obtain ⟨z2, e2, _⟩ := DataW.trod_int Try.underlying3 h2
      obtain ⟨z3, e3, _⟩ := DataW.trod_string Try.underlying9 h3
      obtain ⟨z4, e4, _⟩ := DataW.trod_string Try.underlying9 h4
      simp [encD] at e0 e1 e2 e3 e4
      refine ⟨(d, (s1, s2, s3), z2, z3, z4), ?_⟩
      rw [e0.1, e0.2, e1.1, e1.2.1, e1.2.2, e2, e3, e4]; rfl
set_option maxRecDepth 100000 in
theorem read_facts {H : Type} {enc : TypeId × Value → H} {W : World} {b0 : Nat} {hd : Bool} {a : Option Addr} {len cap : Nat} {d : DataW H} {p : List MemPlace}
    (h : DataW.Trod enc Try.prog W b0 (fun _ => true) hd 50 (.slice a len cap) d p) : ∃ xs : List FactT, xs.length = len ∧ Reads W W.heap.size 8 a len (xs.flatMap encV) :=
  read_slice encV 8 (by decide) (fun _ => rfl) (by kernel_rfl) (by kernel_rfl) (fun fuel cs x hx => el_fact fuel cs x hx) h
theorem facts_rep {w : World} {A : Option Addr} {n c : Nat} {l : List FactT} (hl : l.length = n) (hnc : n ≤ c) (hcm : c ≤ 9223372036854775807) (hr : Reads w w.heap.size 8 A n (l.flatMap encV)) : Rep (fun _ => False) w (cFacts.den l) (.slice A n c) := by
  subst hl
  simp only [Ty.den, Rep]
  refine ⟨flat_lenG (fun x => Ty.enc_len cFact x) l, A, c, rfl, hnc, hcm, ?_⟩
  rcases Nat.eq_zero_or_pos l.length with h0 | h0
  · exact .inl (by rw [h0, Nat.zero_mul])
  · obtain ⟨ad, h1, h2, h3⟩ := hr.2 h0
    refine .inr ⟨ad, h1, h2, fun h => h, ?_⟩
    refine RepC.mk fun j cc hj => ?_
    obtain ⟨u, hu, hru⟩ := ((AV.repC_vals_ (O := fun _ => False) (w := w) (l.flatMap cFact.enc) (exL_flat (fun _ => rfl) l) (AV.vals (l.flatMap cFact.enc)) (by rw [vals_len])).2 rfl).at_ j cc hj
    rw [vals_flat] at hu
    exact ⟨u, h3 j u hu, hru⟩
/-- A law of one list of facts. -/
theorem law1 {g : FuncId} (h : FE.ok Try.prog False (fe1 g (.v cFacts) (fun _ => True) (fun _ => [.td .bool true]))) (A : Option Addr) (n c : Nat) (l : List FactT) (w : World) (hl : l.length = n) (hnc : n ≤ c) (hcm : c ≤ 9223372036854775807) (hr : Reads w w.heap.size 8 A n (l.flatMap encV)) : Calls Try.prog g #[.slice A n c] w fun e w' => e = .returned (.bool true) ∧ Below w.heap.size w w' := by
  have hr : RepC (fun _ => False) w [cFacts.den l] (fun j => (#[Value.slice A n c] : Array Value)[j]?) := by
    simp only [RepC]
    exact ⟨⟨_, rfl, facts_rep hl hnc hcm hr⟩, trivial⟩
  refine ((h (l, ()) trivial ⟨fun _ => 0, fun _ => undef⟩).calls (fun _ => False) w _ (fun b hb => hb.elim) rfl hr).mono ?_
  rintro e w' ⟨r, rfl, h2, h3⟩
  rw [show ((fe1 g (.v cFacts) (fun _ => True) (fun _ => [.td .bool true])).res (l, ())).den ⟨fun _ => 0, fun _ => undef⟩ = .x (.bool true) from rfl, rep_x] at h2
  subst h2
  exact ⟨rfl, h3.b⟩
end Go.Proofs.Ytpehmadeklaebaa.V
