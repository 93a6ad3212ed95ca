/-
  ReadD
-/
import Derived.Test.YtmhkalalcmkpbaaZDotSame
import Derived.Test.YtmhkalalcmkpbaaZDotSmall
import Derived.Test.YtmhkalalcmkpbaaZReadArg
import Derived.Lib.SmallJoins
namespace Go.Proofs.Ytmhkalalcmkpbaa
open Go.ChangeShapes Go.WideShapes Go.ChangeAt Go.RowKit Go.Deep
set_option linter.unusedVariables false
set_option linter.unusedSimpArgs false

set_option maxRecDepth 100000 in
/-- The cells of one name. -/
theorem el_dot {H : Type} {enc : TypeId × Value → H} {W : World} {b0 : Nat} {sp : Nat → Bool} {hd : Bool} (fuel : Nat) (cs : List Value) (x : DataW H × List MemPlace)
    (h : DataW.trod enc Try.prog W b0 sp hd fuel 23 cs = some x) : ∃ y : Int × Int, cs = encD y := by
  obtain ⟨ys, n, _, hx, hlen, hyl, hf⟩ := DataW.trod_struct Try.underlying23 h
  have hC : Try.prog.cellsOf 23 = 2 := by kernel_rfl
  have hI : Try.prog.cellsOf 3 = 1 := by kernel_rfl
  rw [hC] at hlen
  match cs, hlen with
  | [c0, c1], _ =>
    match ys, hyl with
    | [y0, y1], _ =>
      have h0 : DataW.trod enc Try.prog W b0 sp hd n 3 ((([c0, c1] : List Value).drop 0).take (Try.prog.cellsOf 3)) = some y0 := hf 0 _ rfl
      have h1 : DataW.trod enc Try.prog W b0 sp hd n 3 ((([c0, c1] : List Value).drop 1).take (Try.prog.cellsOf 3)) = some y1 := hf 1 _ rfl
      rw [hI] at h0 h1
      obtain ⟨z0, e0, _⟩ := DataW.trod_int Try.underlying3 h0
      obtain ⟨z1, e1, _⟩ := DataW.trod_int Try.underlying3 h1
      simp at e0 e1
      exact ⟨(z0, z1), by rw [e0, e1]; rfl⟩
set_option maxRecDepth 100000 in
theorem read_dots {H : Type} {enc : TypeId × Value → H} {W : World} {b0 : Nat} {hd : Bool} {a : Option Addr} {len cap : Nat} {d : DataW H} {p : List MemPlace}
    (h : DataW.Trod enc Try.prog W b0 (fun _ => true) hd 27 (.slice a len cap) d p) : ∃ xs : List (Int × Int), RdD W W.heap.size a len xs := by
  obtain ⟨xs, _, hr⟩ := read_slice encD 2 (by decide) (fun _ => rfl) (by kernel_rfl) (by kernel_rfl) (fun fuel cs x hx => el_dot fuel cs x hx) h
  exact ⟨xs, hr⟩
end Go.Proofs.Ytmhkalalcmkpbaa
