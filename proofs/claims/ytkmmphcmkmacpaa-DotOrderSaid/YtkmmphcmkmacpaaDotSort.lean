/-
  slices.SortFunc at names over a row of the call's own: what it leaves.
-/
import Derived.Test.YtkmmphcmkmacpaaDotLay
namespace Go.Proofs.Ytkmmphcmkmacpaa
open Go.Shelf Go.RowKit
open Go.Sort (HoldsK size_flatK get_flatK size_putRowK putRowK)
set_option linter.unusedVariables false
set_option linter.unusedSimpArgs false

/-- A row of names in block g that may be written. -/
structure RowD (w : World) (g : Nat) (l : List (Int × Int)) : Prop where
  lt : g < w.heap.size
  one : ∀ k, k < l.length → w.cell? ⟨g, k * 2, none⟩ = some (.int .i64 (l.getD k default).1)
  two : ∀ k, k < l.length → w.cell? ⟨g, k * 2 + 1, none⟩ = some (.int .i64 (l.getD k default).2)
  free : ∀ j, j < l.length * 2 → w.frozen? ⟨g, j, none⟩ = false
theorem arr_get (d : Array (Int × Int)) (k : Nat) (h : k < d.size) : d[k]! = d.toList.getD k default := by
  simp [List.getD, h]
theorem RowD.of_holds {w : World} {g : Nat} {d : Array (Int × Int)} (h : HoldsK encD 2 w g 0 d) (hg : g < w.heap.size) : RowD w g d.toList := by
  refine ⟨hg, fun k hk => ?_, fun k hk => ?_, fun j hj => ?_⟩
  · have hk' : k < d.size := by simpa using hk
    have := (h (k * 2) (by rw [size_flatK]; omega)).1
    rw [Nat.zero_add, get_flatK _ _ _ _ (by omega), show k * 2 / 2 = k by omega, show k * 2 % 2 = 0 by omega, arr_get d k hk'] at this
    exact this
  · have hk' : k < d.size := by simpa using hk
    have := (h (k * 2 + 1) (by rw [size_flatK]; omega)).1
    rw [Nat.zero_add, get_flatK _ _ _ _ (by omega), show (k * 2 + 1) / 2 = k by omega, show (k * 2 + 1) % 2 = 1 by omega, arr_get d k hk'] at this
    exact this
  · have := (h j (by rw [size_flatK]; simpa using hj)).2
    rwa [Nat.zero_add] at this
theorem RowD.holds {w : World} {g : Nat} {d : Array (Int × Int)} (h : RowD w g d.toList) : HoldsK encD 2 w g 0 d := by
  intro j hj
  rw [size_flatK] at hj
  rw [Nat.zero_add, get_flatK _ _ _ _ hj]
  have hk : j / 2 < d.size := by omega
  refine ⟨?_, h.free j (by simpa using hj)⟩
  rw [arr_get d _ hk]
  have hm : j % 2 = 0 ∨ j % 2 = 1 := by omega
  rcases hm with hm | hm
  · have := h.one (j / 2) (by simpa using hk)
    rw [show j / 2 * 2 = j by omega] at this
    rw [hm]; exact this
  · have := h.two (j / 2) (by simpa using hk)
    rw [show j / 2 * 2 + 1 = j by omega] at this
    rw [hm]; exact this
theorem OwnD.row {w : World} {base g cap : Nat} {l : List (Int × Int)} (h : OwnD w base (.slice (some ⟨g, 0, none⟩) l.length cap) l) : RowD w g l := by
  refine ⟨(h.lt g rfl).2, fun k hk => ?_, fun k hk => ?_, fun j _ => h.frozenAt j⟩
  · rw [h.cellAt _ (by omega)]; exact (flat_get l k hk).1
  · rw [h.cellAt _ (by omega)]; exact (flat_get l k hk).2
theorem grown_sort (w : World) (g n : Nat) (d : Array (Int × Int)) (os : Array Obj) : w.grownBy (sortWorldK encD 2 w g 0 n d os) (some g) := by
  refine ⟨rfl, rfl, rfl, ?_, fun k hk hne => ?_⟩
  · show w.heap.size ≤ (Sort.grow _ os).heap.size
    rw [Sort.size_grow, size_putRowK]
    show w.heap.size ≤ w.heap.size + _
    omega
  · show (Sort.grow _ os).heap[k]? = _
    rw [Sort.heap_grow_old _ _ (by rw [size_putRowK]; exact hk)]
    show (w.heap.modify g _)[k]? = _
    rw [Array.getElem?_modify, if_neg (by rintro rfl; exact hne rfl)]
end Go.Proofs.Ytkmmphcmkmacpaa
