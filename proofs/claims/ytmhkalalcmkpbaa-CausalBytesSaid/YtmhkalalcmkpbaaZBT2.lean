/-
  BT2
-/
import Derived.Test.YtmhkalalcmkpbaaZBT
namespace Go.Proofs.Ytmhkalalcmkpbaa
open Go
theorem ty157 : tyOf Try.prog 157 = some (true, 2) := by kernel_rfl
theorem ze157 : tyZero Try.prog 157 = some [.pointer none, .slice none 0 0] := by kernel_rfl
theorem ro157 : rowOf Try.prog 157 = some (2, 32) := by kernel_rfl
theorem fl157_0 : tyField Try.prog 157 0 = some (0, 154) := by kernel_rfl
theorem fl157_1 : tyField Try.prog 157 1 = some (1, 155) := by kernel_rfl
theorem pl157 : stPlaces Try.prog 157 = some [(0, 1), (1, 1)] := by kernel_rfl
theorem ty155 : tyOf Try.prog 155 = some (false, 1) := by kernel_rfl
theorem ze155 : tyZero Try.prog 155 = some [.slice none 0 0] := by kernel_rfl
theorem ro155 : rowOf Try.prog 155 = some (1, 24) := by kernel_rfl
theorem ty163 : tyOf Try.prog 163 = some (true, 5) := by kernel_rfl
theorem ze163 : tyZero Try.prog 163 = some [.int .i64 0, .int .i64 0, .int .i64 0, .int .i64 0, .int .i64 0] := by kernel_rfl
theorem ro163 : rowOf Try.prog 163 = some (5, 40) := by kernel_rfl
theorem ty103 : tyOf Try.prog 103 = some (true, 2) := by kernel_rfl
theorem ze103 : tyZero Try.prog 103 = some [.string ⟨#[]⟩, .string ⟨#[]⟩] := by kernel_rfl
theorem ro103 : rowOf Try.prog 103 = some (2, 32) := by kernel_rfl
end Go.Proofs.Ytmhkalalcmkpbaa
