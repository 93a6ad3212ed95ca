/-
  Bld Fput
-/
import Derived.Test.YtmhkalalcmkpbaaZBT
import Derived.Test.YtmhkalalcmkpbaaZBT2
import Derived.Test.YtmhkalalcmkpbaaZC3
import Derived.Test.YtmhkalalcmkpbaaZFr
namespace Go.Proofs.Ytmhkalalcmkpbaa
open Go Go.RowKit Go.Shelf
set_option linter.unusedVariables false
set_option linter.unusedSimpArgs false

def selfP (b : Nat) : Value := .pointer (some ⟨b, 0, none⟩)
/-- What a builder is made of. -/
def bldC (b : Nat) (p v : Value) : HObj := .cells b 157 [.x p, .x v]
def bldR (v : Value) (s : ByteArray) : HObj := .row v 5 1 s.size (strA s)

def WsR (b : Nat) (s : ByteArray) (r : AV) (av : AV) (h' : List HObj) : Prop := av = r ∧ ∃ v', h' = [bldC b (selfP b) v', bldR v' s]
theorem WsR.two {b : Nat} {s : ByteArray} {r av : AV} {h' : List HObj} (h : WsR b s r av h') : ∃ p q, h' = [p, q] := by
  obtain ⟨_, v', rfl⟩ := h; exact ⟨_, _, rfl⟩

end Go.Proofs.Ytmhkalalcmkpbaa

namespace Go.Proofs.Ytmhkalalcmkpbaa
open Go Go.RowKit
set_option linter.unusedVariables false
set_option linter.unusedSimpArgs false

theorem avS {a b : ByteArray} (h : a = b) : AV.x (.string a) = AV.x (.string b) := by rw [h]
theorem num_p (n : Int) : PFn Try.prog False 63 [iA n] (.tup [sA (numS n), iA (numE n)]) := pfn_ex rfl rfl (enter_of Try.func63 (by kernel_rfl) rfl) fun w => (num_c n w).mono fun e w' ⟨h1, h2⟩ => ⟨h1, bl_weak h2⟩
theorem text_p (s : ByteArray) (hs : s.size < 9223372036854775807) : PFn Try.prog False 65 [sA s] (.tup [sA (txS s), iA (txE s)]) := pfn_ex rfl rfl (enter_of Try.func65 (by kernel_rfl) rfl) fun w => (Text_c s hs w).mono fun e w' ⟨h1, h2⟩ => ⟨h1, bl_weak h2⟩
theorem WsR.pq {b : Nat} {s : ByteArray} {r av : AV} {p q : HObj} (h : WsR b s r av [p, q]) : av = r ∧ ∃ v', p = bldC b (selfP b) v' ∧ q = bldR v' s := by
  obtain ⟨h1, v', h2⟩ := h
  simp only [List.cons.injEq, and_true] at h2
  exact ⟨h1, v', h2.1, h2.2⟩
end Go.Proofs.Ytmhkalalcmkpbaa
