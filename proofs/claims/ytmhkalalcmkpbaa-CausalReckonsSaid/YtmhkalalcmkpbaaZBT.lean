/-
  BT
-/
import Derived.Test.YtmhkalalcmkpbaaZC1
namespace Go.Proofs.Ytmhkalalcmkpbaa
open Go
theorem ty3 : tyOf Try.prog 3 = some (false, 1) := by kernel_rfl
theorem ze3 : tyZero Try.prog 3 = some [.int .i64 0] := by kernel_rfl
theorem ty9 : tyOf Try.prog 9 = some (false, 1) := by kernel_rfl
theorem ty32 : tyOf Try.prog 32 = some (false, 1) := by kernel_rfl
theorem ty23 : tyOf Try.prog 23 = some (true, 2) := by kernel_rfl
theorem ze23 : tyZero Try.prog 23 = some [.int .i64 0, .int .i64 0] := by kernel_rfl
theorem ro23 : rowOf Try.prog 23 = some (2, 16) := by kernel_rfl
theorem fl23_0 : tyField Try.prog 23 0 = some (0, 3) := by kernel_rfl
theorem fl23_1 : tyField Try.prog 23 1 = some (1, 3) := by kernel_rfl
theorem pl23 : stPlaces Try.prog 23 = some [(0, 1), (1, 1)] := by kernel_rfl
theorem ty25 : tyOf Try.prog 25 = some (true, 3) := by kernel_rfl
theorem ty87 : tyOf Try.prog 87 = some (true, 8) := by kernel_rfl
theorem ze87 : tyZero Try.prog 87 = some [.int .i64 0, .int .i64 0, .int .i64 0, .int .i64 0, .int .i64 0, .int .i64 0, .string ⟨#[]⟩, .string ⟨#[]⟩] := by kernel_rfl
theorem ro87 : rowOf Try.prog 87 = some (8, 80) := by kernel_rfl
theorem fl87_0 : tyField Try.prog 87 0 = some (0, 23) := by kernel_rfl
theorem fl87_1 : tyField Try.prog 87 1 = some (2, 25) := by kernel_rfl
theorem fl87_2 : tyField Try.prog 87 2 = some (5, 3) := by kernel_rfl
theorem fl87_3 : tyField Try.prog 87 3 = some (6, 9) := by kernel_rfl
theorem fl87_4 : tyField Try.prog 87 4 = some (7, 9) := by kernel_rfl
theorem ty27 : tyOf Try.prog 27 = some (false, 1) := by kernel_rfl
theorem ze27 : tyZero Try.prog 27 = some [.slice none 0 0] := by kernel_rfl
theorem ty116 : tyOf Try.prog 116 = some (false, 1) := by kernel_rfl
theorem ty197 : tyOf Try.prog 197 = some (false, 1) := by kernel_rfl
theorem ze177 : tyZero Try.prog 177 = some [.string ⟨#[]⟩, .int .i64 0] := by kernel_rfl
theorem fl177_0 : tyField Try.prog 177 0 = some (0, 9) := by kernel_rfl
theorem fl177_1 : tyField Try.prog 177 1 = some (1, 32) := by kernel_rfl
theorem pl177 : stPlaces Try.prog 177 = some [(0, 1), (1, 1)] := by kernel_rfl
end Go.Proofs.Ytmhkalalcmkpbaa
