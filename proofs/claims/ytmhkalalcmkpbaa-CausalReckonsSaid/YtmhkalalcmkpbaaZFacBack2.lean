/-
  FacBack FacBack2
-/
import Derived.Test.YtmhkalalcmkpbaaZFacR
import Derived.Test.YtmhkalalcmkpbaaZOrd
namespace Go.Proofs.Ytmhkalalcmkpbaa
open Go.RowKit
set_option linter.unusedVariables false

def txB (t : ByteArray) : List UInt8 := bytesN t.size ++ t.data.toList
theorem ext2_data (s : ByteArray) (a b : Nat) : (s.extract a b).data.toList = (s.data.toList.drop a).take (b - a) := by
  simp [ByteArray.data_extract]
theorem len_data (s : ByteArray) : s.data.toList.length = s.size := by rw [Array.length_toList]; rfl
theorem rdT_put (s t : ByteArray) (r : List UInt8) (h : t.size ≤ 65536) (hs : s.data.toList = txB t ++ r) : ∃ s', rdT (s, 0) = (t, (s', 0)) ∧ s'.data.toList = r := by
  have hs2 : s.data.toList = bytesN t.size ++ (t.data.toList ++ r) := by rw [hs, txB, List.append_assoc]
  have hr := numR_put t.size (t.data.toList ++ r) (by omega)
  rw [← hs2] at hr
  have hsz : s.size = (bytesN t.size).length + (t.size + r.length) := by
    rw [← len_data s, hs2, List.length_append, List.length_append, len_data]
  have ht : textR s = (t, (bytesN t.size).length + t.size, 0) := by
    unfold textR
    rw [hr]
    simp only
    rw [if_neg (by simp), if_neg (by omega), if_neg (by omega)]
    congr 1
    refine ba_ext ?_
    rw [ext2_data, hs2, List.drop_left, Nat.add_sub_cancel_left, ← len_data t, List.take_left]
  refine ⟨s.extract ((bytesN t.size).length + t.size) s.size, ?_, ?_⟩
  · unfold rdT
    rw [ht]
    rfl
  · rw [ext_data, hs2, ← len_data t, ← List.drop_drop, List.drop_left, List.drop_left]
def okN (n : Int) : Prop := 0 ≤ n ∧ n ≤ 9007199254740992
structure OkB (f : FactT) : Prop where
  n1 : okN f.1.1
  n2 : okN f.1.2
  n3 : okN f.2.1.1
  n4 : okN f.2.1.2.1
  n5 : okN f.2.2.1
  same : f.2.1.2.2 = f.1.1
  t1 : f.2.2.2.1.size ≤ 65536
  t2 : f.2.2.2.2.size ≤ 65536
theorem txS_data (t : ByteArray) (h : t.size ≤ 65536) : (txS t).data.toList = txB t := by
  unfold txS txB
  rw [if_neg (by omega), app_data, numS_data _ (by omega) (by omega), Int.toNat_natCast]
end Go.Proofs.Ytmhkalalcmkpbaa

namespace Go.Proofs.Ytmhkalalcmkpbaa
open Go.RowKit
set_option linter.unusedVariables false

end Go.Proofs.Ytmhkalalcmkpbaa
