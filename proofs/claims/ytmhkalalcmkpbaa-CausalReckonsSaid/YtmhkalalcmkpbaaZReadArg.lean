/-
  ReadArg
-/
import Derived.Test.YtmhkalalcmkpbaaZMem2
import Derived.WalkKit
import Derived.ProofKit
import Derived.OpenShut
import Derived.Deep.Slices
namespace Go.Proofs.Ytmhkalalcmkpbaa
open Go.ChangeShapes Go.WideShapes Go.ChangeAt Go.RowKit Go.Deep
set_option linter.unusedVariables false
set_option linter.unusedSimpArgs false

theorem flatMap_len {α : Type} (f : α → List Value) (k : Nat) (hk : ∀ y, (f y).length = k) (l : List α) : (l.flatMap f).length = l.length * k := by
  induction l with
  | nil => simp
  | cons a l ih => rw [List.flatMap_cons, List.length_append, hk, ih, List.length_cons, Nat.succ_mul]; omega
theorem flatMap_get {α : Type} (f : α → List Value) (k : Nat) (hk : ∀ y, (f y).length = k) : ∀ (l : List α) (i r : Nat) (y : α), l[i]? = some y → r < k → (l.flatMap f)[i * k + r]? = (f y)[r]? := by
  intro l
  induction l with
  | nil => intro i r y h _; simp at h
  | cons a l ih =>
    intro i r y h hr
    rw [List.flatMap_cons]
    cases i with
    | zero =>
      obtain rfl : a = y := by simpa using h
      rw [Nat.zero_mul, Nat.zero_add, List.getElem?_append_left (by rw [hk]; exact hr)]
    | succ i =>
      rw [List.getElem?_append_right (by rw [hk, Nat.succ_mul]; omega), hk, show (i + 1) * k + r - k = i * k + r by rw [Nat.succ_mul]; omega]
      exact ih i r y (by simpa using h) hr
/-- A slice that came in, of a type whose elements read as k cells each. -/
theorem read_slice {H : Type} {enc : TypeId × Value → H} {P : Program} {W : World} {b0 : Nat} {sp : Nat → Bool} {hd : Bool} {t e : TypeId} {a : Option Addr} {len cap : Nat} {d : DataW H} {p : List MemPlace} {α : Type}
    (f : α → List Value) (k : Nat) (hk0 : 0 < k) (hk : ∀ y, (f y).length = k) (ht : P.underlying t = some (.slice e)) (hC : P.cellsOf e = k)
    (hel : ∀ (fuel : Nat) (cs : List Value) (x : DataW H × List MemPlace), DataW.trod enc P W b0 sp hd fuel e cs = some x → ∃ y, cs = f y)
    (h : DataW.Trod enc P W b0 sp hd t (.slice a len cap) d p) : ∃ xs : List α, xs.length = len ∧ Reads W W.heap.size k a len (xs.flatMap f) := by
  obtain ⟨fuel, hf⟩ := h
  rcases open_slice ht hf with ⟨hcs, _⟩ | ⟨x, l, c, m, n, D, Pl, hcs, hb, hl, hm, hmm, hx, hi⟩
  · simp [Value.cells] at hcs
    obtain ⟨rfl, rfl, rfl⟩ := hcs
    exact ⟨[], rfl, by simp, fun h => absurd h (by omega)⟩
  · simp [Value.cells] at hcs
    obtain ⟨rfl, rfl, rfl⟩ := hcs
    have hlm : len ≤ m := by rw [hmm]; split <;> omega
    have hex : ∀ i : Fin len, ∃ y, W.cells? b0 (x.add (i.val * k)) k = some (f y) := fun i => by
      obtain ⟨cs', hc, htr⟩ := hi i.val (by omega)
      rw [hC] at hc
      obtain ⟨y, rfl⟩ := hel _ _ _ htr
      exact ⟨y, hc⟩
    obtain ⟨g, hg⟩ := Classical.axiomOfChoice hex
    refine ⟨List.ofFn g, by simp, ?_, fun h0 => ⟨x, rfl, ?_, fun j u hj => ?_⟩⟩
    · rw [flatMap_len f k hk, List.length_ofFn]
    · have h1 := (World.cells?_some (hg ⟨0, h0⟩)).2.2 0 hk0
      rw [List.getElem?_eq_getElem (by rw [hk]; exact hk0)] at h1
      have := World.block_lt_of_cell? _ _ h1
      rwa [block_of_add, block_of_add] at this
    · have hjl : j < len * k := by
        rcases Nat.lt_or_ge j (len * k) with h' | h'
        · exact h'
        · rw [List.getElem?_eq_none (by rw [flatMap_len f k hk, List.length_ofFn]; exact h')] at hj; cases hj
      have hi0 : j / k < len := Nat.div_lt_of_lt_mul (by rw [Nat.mul_comm]; exact hjl)
      have hr0 : j % k < k := Nat.mod_lt _ hk0
      have hje : j / k * k + j % k = j := by rw [Nat.mul_comm]; exact Nat.div_add_mod j k
      have hget : (List.ofFn g)[j / k]? = some (g ⟨j / k, hi0⟩) := by simp [hi0]
      have h2 := flatMap_get f k hk (List.ofFn g) (j / k) (j % k) _ hget hr0
      rw [hje] at h2
      have h1 := (World.cells?_some (hg ⟨j / k, hi0⟩)).2.2 (j % k) hr0
      rw [add_of_add, hje] at h1
      rw [h1, ← h2, hj]
end Go.Proofs.Ytmhkalalcmkpbaa
