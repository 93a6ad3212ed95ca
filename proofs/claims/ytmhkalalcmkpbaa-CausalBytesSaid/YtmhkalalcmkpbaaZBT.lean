/-
  BT
-/
import Derived.Test.YtmhkalalcmkpbaaZC1
namespace Go.Proofs.Ytmhkalalcmkpbaa
open Go
theorem ty3 : tyOf Try.prog 3 = some (false, 1) := by kernel_rfl
theorem ze3 : tyZero Try.prog 3 = some [.int .i64 0] := by kernel_rfl
theorem ro3 : rowOf Try.prog 3 = some (1, 8) := by kernel_rfl
theorem ty9 : tyOf Try.prog 9 = some (false, 1) := by kernel_rfl
theorem ze9 : tyZero Try.prog 9 = some [.string ⟨#[]⟩] := by kernel_rfl
theorem ro9 : rowOf Try.prog 9 = some (1, 16) := by kernel_rfl
theorem ty4 : tyOf Try.prog 4 = some (false, 1) := by kernel_rfl
theorem ze4 : tyZero Try.prog 4 = some [.bool false] := by kernel_rfl
theorem ro4 : rowOf Try.prog 4 = some (1, 1) := by kernel_rfl
theorem ty5 : tyOf Try.prog 5 = some (false, 1) := by kernel_rfl
theorem ze5 : tyZero Try.prog 5 = some [.int .u8 0] := by kernel_rfl
theorem ro5 : rowOf Try.prog 5 = some (1, 1) := by kernel_rfl
theorem ty32 : tyOf Try.prog 32 = some (false, 1) := by kernel_rfl
theorem ze32 : tyZero Try.prog 32 = some [.int .i64 0] := by kernel_rfl
theorem ro32 : rowOf Try.prog 32 = some (1, 8) := by kernel_rfl
theorem ty23 : tyOf Try.prog 23 = some (true, 2) := by kernel_rfl
theorem ze23 : tyZero Try.prog 23 = some [.int .i64 0, .int .i64 0] := by kernel_rfl
theorem ro23 : rowOf Try.prog 23 = some (2, 16) := by kernel_rfl
theorem fl23_0 : tyField Try.prog 23 0 = some (0, 3) := by kernel_rfl
theorem fl23_1 : tyField Try.prog 23 1 = some (1, 3) := by kernel_rfl
theorem pl23 : stPlaces Try.prog 23 = some [(0, 1), (1, 1)] := by kernel_rfl
theorem ty25 : tyOf Try.prog 25 = some (true, 3) := by kernel_rfl
theorem ze25 : tyZero Try.prog 25 = some [.int .i64 0, .int .i64 0, .int .i64 0] := by kernel_rfl
theorem ro25 : rowOf Try.prog 25 = some (3, 24) := by kernel_rfl
theorem fl25_0 : tyField Try.prog 25 0 = some (0, 3) := by kernel_rfl
theorem fl25_1 : tyField Try.prog 25 1 = some (1, 3) := by kernel_rfl
theorem fl25_2 : tyField Try.prog 25 2 = some (2, 3) := by kernel_rfl
theorem pl25 : stPlaces Try.prog 25 = some [(0, 1), (1, 1), (2, 1)] := by kernel_rfl
theorem ty87 : tyOf Try.prog 87 = some (true, 8) := by kernel_rfl
theorem ze87 : tyZero Try.prog 87 = some [.int .i64 0, .int .i64 0, .int .i64 0, .int .i64 0, .int .i64 0, .int .i64 0, .string ⟨#[]⟩, .string ⟨#[]⟩] := by kernel_rfl
theorem ro87 : rowOf Try.prog 87 = some (8, 80) := by kernel_rfl
theorem fl87_0 : tyField Try.prog 87 0 = some (0, 23) := by kernel_rfl
theorem fl87_1 : tyField Try.prog 87 1 = some (2, 25) := by kernel_rfl
theorem fl87_2 : tyField Try.prog 87 2 = some (5, 3) := by kernel_rfl
theorem fl87_3 : tyField Try.prog 87 3 = some (6, 9) := by kernel_rfl
theorem fl87_4 : tyField Try.prog 87 4 = some (7, 9) := by kernel_rfl
theorem pl87 : stPlaces Try.prog 87 = some [(0, 2), (2, 3), (5, 1), (6, 1), (7, 1)] := by kernel_rfl
theorem ty26 : tyOf Try.prog 26 = some (false, 1) := by kernel_rfl
theorem ze26 : tyZero Try.prog 26 = some [.slice none 0 0] := by kernel_rfl
theorem ro26 : rowOf Try.prog 26 = some (1, 24) := by kernel_rfl
theorem ty27 : tyOf Try.prog 27 = some (false, 1) := by kernel_rfl
theorem ze27 : tyZero Try.prog 27 = some [.slice none 0 0] := by kernel_rfl
theorem ro27 : rowOf Try.prog 27 = some (1, 24) := by kernel_rfl
theorem ty116 : tyOf Try.prog 116 = some (false, 1) := by kernel_rfl
theorem ze116 : tyZero Try.prog 116 = some [.nilFunc] := by kernel_rfl
theorem ro116 : rowOf Try.prog 116 = some (1, 8) := by kernel_rfl
theorem ty197 : tyOf Try.prog 197 = some (false, 1) := by kernel_rfl
theorem ze197 : tyZero Try.prog 197 = some [.nilFunc] := by kernel_rfl
theorem ro197 : rowOf Try.prog 197 = some (1, 8) := by kernel_rfl
theorem ty105 : tyOf Try.prog 105 = some (false, 1) := by kernel_rfl
theorem ze105 : tyZero Try.prog 105 = some [.slice none 0 0] := by kernel_rfl
theorem ro105 : rowOf Try.prog 105 = some (1, 24) := by kernel_rfl
theorem ty127 : tyOf Try.prog 127 = some (true, 2) := by kernel_rfl
theorem ze127 : tyZero Try.prog 127 = some [.string ⟨#[]⟩, .int .i64 0] := by kernel_rfl
theorem ro127 : rowOf Try.prog 127 = some (2, 24) := by kernel_rfl
theorem fl127_0 : tyField Try.prog 127 0 = some (0, 9) := by kernel_rfl
theorem fl127_1 : tyField Try.prog 127 1 = some (1, 3) := by kernel_rfl
theorem pl127 : stPlaces Try.prog 127 = some [(0, 1), (1, 1)] := by kernel_rfl
theorem ty177 : tyOf Try.prog 177 = some (true, 2) := by kernel_rfl
theorem ze177 : tyZero Try.prog 177 = some [.string ⟨#[]⟩, .int .i64 0] := by kernel_rfl
theorem ro177 : rowOf Try.prog 177 = some (2, 24) := by kernel_rfl
theorem fl177_0 : tyField Try.prog 177 0 = some (0, 9) := by kernel_rfl
theorem fl177_1 : tyField Try.prog 177 1 = some (1, 32) := by kernel_rfl
theorem pl177 : stPlaces Try.prog 177 = some [(0, 1), (1, 1)] := by kernel_rfl
end Go.Proofs.Ytmhkalalcmkpbaa
