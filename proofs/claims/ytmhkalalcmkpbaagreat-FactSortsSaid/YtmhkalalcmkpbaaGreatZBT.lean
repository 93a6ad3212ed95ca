/-
  BT
-/
import Derived.Test.YtmhkalalcmkpbaaGreatZC1
namespace Go.Proofs.YtmhkalalcmkpbaaGreat
open Go
theorem ty3 : tyOf Tryz.prog 3 = some (false, 1) := by kernel_rfl
theorem ze3 : tyZero Tryz.prog 3 = some [.int .i64 0] := by kernel_rfl
theorem ro3 : rowOf Tryz.prog 3 = some (1, 8) := by kernel_rfl
theorem ty9 : tyOf Tryz.prog 9 = some (false, 1) := by kernel_rfl
theorem ze9 : tyZero Tryz.prog 9 = some [.string ⟨#[]⟩] := by kernel_rfl
theorem ro9 : rowOf Tryz.prog 9 = some (1, 16) := by kernel_rfl
theorem ty4 : tyOf Tryz.prog 4 = some (false, 1) := by kernel_rfl
theorem ze4 : tyZero Tryz.prog 4 = some [.bool false] := by kernel_rfl
theorem ro4 : rowOf Tryz.prog 4 = some (1, 1) := by kernel_rfl
theorem ty5 : tyOf Tryz.prog 5 = some (false, 1) := by kernel_rfl
theorem ze5 : tyZero Tryz.prog 5 = some [.int .u8 0] := by kernel_rfl
theorem ro5 : rowOf Tryz.prog 5 = some (1, 1) := by kernel_rfl
theorem ty25 : tyOf Tryz.prog 25 = some (false, 1) := by kernel_rfl
theorem ze25 : tyZero Tryz.prog 25 = some [.int .i64 0] := by kernel_rfl
theorem ro25 : rowOf Tryz.prog 25 = some (1, 8) := by kernel_rfl
theorem ty32 : tyOf Tryz.prog 32 = some (true, 2) := by kernel_rfl
theorem ze32 : tyZero Tryz.prog 32 = some [.int .i64 0, .int .i64 0] := by kernel_rfl
theorem ro32 : rowOf Tryz.prog 32 = some (2, 16) := by kernel_rfl
theorem fl32_0 : tyField Tryz.prog 32 0 = some (0, 3) := by kernel_rfl
theorem fl32_1 : tyField Tryz.prog 32 1 = some (1, 3) := by kernel_rfl
theorem pl32 : stPlaces Tryz.prog 32 = some [(0, 1), (1, 1)] := by kernel_rfl
theorem ty34 : tyOf Tryz.prog 34 = some (true, 3) := by kernel_rfl
theorem ze34 : tyZero Tryz.prog 34 = some [.int .i64 0, .int .i64 0, .int .i64 0] := by kernel_rfl
theorem ro34 : rowOf Tryz.prog 34 = some (3, 24) := by kernel_rfl
theorem fl34_0 : tyField Tryz.prog 34 0 = some (0, 3) := by kernel_rfl
theorem fl34_1 : tyField Tryz.prog 34 1 = some (1, 3) := by kernel_rfl
theorem fl34_2 : tyField Tryz.prog 34 2 = some (2, 3) := by kernel_rfl
theorem pl34 : stPlaces Tryz.prog 34 = some [(0, 1), (1, 1), (2, 1)] := by kernel_rfl
theorem ty36 : tyOf Tryz.prog 36 = some (true, 8) := by kernel_rfl
theorem ze36 : tyZero Tryz.prog 36 = some [.int .i64 0, .int .i64 0, .int .i64 0, .int .i64 0, .int .i64 0, .int .i64 0, .string ⟨#[]⟩, .string ⟨#[]⟩] := by kernel_rfl
theorem ro36 : rowOf Tryz.prog 36 = some (8, 80) := by kernel_rfl
theorem fl36_0 : tyField Tryz.prog 36 0 = some (0, 32) := by kernel_rfl
theorem fl36_1 : tyField Tryz.prog 36 1 = some (2, 34) := by kernel_rfl
theorem fl36_2 : tyField Tryz.prog 36 2 = some (5, 3) := by kernel_rfl
theorem fl36_3 : tyField Tryz.prog 36 3 = some (6, 9) := by kernel_rfl
theorem fl36_4 : tyField Tryz.prog 36 4 = some (7, 9) := by kernel_rfl
theorem pl36 : stPlaces Tryz.prog 36 = some [(0, 2), (2, 3), (5, 1), (6, 1), (7, 1)] := by kernel_rfl
theorem ty22 : tyOf Tryz.prog 22 = some (false, 1) := by kernel_rfl
theorem ze22 : tyZero Tryz.prog 22 = some [.slice none 0 0] := by kernel_rfl
theorem ro22 : rowOf Tryz.prog 22 = some (1, 24) := by kernel_rfl
theorem ty73 : tyOf Tryz.prog 73 = some (false, 1) := by kernel_rfl
theorem ze73 : tyZero Tryz.prog 73 = some [.nilFunc] := by kernel_rfl
theorem ro73 : rowOf Tryz.prog 73 = some (1, 8) := by kernel_rfl
theorem ty74 : tyOf Tryz.prog 74 = some (false, 1) := by kernel_rfl
theorem ze74 : tyZero Tryz.prog 74 = some [.nilFunc] := by kernel_rfl
theorem ro74 : rowOf Tryz.prog 74 = some (1, 8) := by kernel_rfl
theorem ty84 : tyOf Tryz.prog 84 = some (false, 1) := by kernel_rfl
theorem ze84 : tyZero Tryz.prog 84 = some [.slice none 0 0] := by kernel_rfl
theorem ro84 : rowOf Tryz.prog 84 = some (1, 24) := by kernel_rfl
theorem ty90 : tyOf Tryz.prog 90 = some (true, 2) := by kernel_rfl
theorem ze90 : tyZero Tryz.prog 90 = some [.string ⟨#[]⟩, .int .i64 0] := by kernel_rfl
theorem ro90 : rowOf Tryz.prog 90 = some (2, 24) := by kernel_rfl
theorem fl90_0 : tyField Tryz.prog 90 0 = some (0, 9) := by kernel_rfl
theorem fl90_1 : tyField Tryz.prog 90 1 = some (1, 3) := by kernel_rfl
theorem pl90 : stPlaces Tryz.prog 90 = some [(0, 1), (1, 1)] := by kernel_rfl
theorem ty106 : tyOf Tryz.prog 106 = some (true, 2) := by kernel_rfl
theorem ze106 : tyZero Tryz.prog 106 = some [.string ⟨#[]⟩, .int .i64 0] := by kernel_rfl
theorem ro106 : rowOf Tryz.prog 106 = some (2, 24) := by kernel_rfl
theorem fl106_0 : tyField Tryz.prog 106 0 = some (0, 9) := by kernel_rfl
theorem fl106_1 : tyField Tryz.prog 106 1 = some (1, 25) := by kernel_rfl
theorem pl106 : stPlaces Tryz.prog 106 = some [(0, 1), (1, 1)] := by kernel_rfl
end Go.Proofs.YtmhkalalcmkpbaaGreat
