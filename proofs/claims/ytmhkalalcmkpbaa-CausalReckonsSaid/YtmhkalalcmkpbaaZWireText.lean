/-
  WireText
-/
import Derived.Test.YtmhkalalcmkpbaaZDotClone
import Derived.Test.YtmhkalalcmkpbaaZDotPlain
import Derived.Test.YtmhkalalcmkpbaaZDotRead
namespace Go.Proofs.Ytmhkalalcmkpbaa
open Go.RowKit
set_option linter.unusedVariables false
set_option linter.unusedSimpArgs false

theorem size_data (s : ByteArray) : s.data.toList.length = s.size := by simp
/-- A text's reading: the text, how many bytes, the error. -/
def textR (s : ByteArray) : ByteArray × Nat × Int :=
  if (numR s.data.toList).1 ≠ 0 then (⟨#[]⟩, 0, (numR s.data.toList).1) else
  if 65536 < (numR s.data.toList).2.1 then (⟨#[]⟩, 0, 3) else
  if s.size - (numR s.data.toList).2.2 < (numR s.data.toList).2.1 then (⟨#[]⟩, 0, 4) else
  (s.extract (numR s.data.toList).2.2 ((numR s.data.toList).2.2 + (numR s.data.toList).2.1), (numR s.data.toList).2.2 + (numR s.data.toList).2.1, 0)
/-- What a reader does for a text. -/
def rdT (st : ByteArray × Int) : ByteArray × (ByteArray × Int) :=
  if st.2 ≠ 0 then (⟨#[]⟩, st) else if (textR st.1).2.2 ≠ 0 then (⟨#[]⟩, (st.1, (textR st.1).2.2)) else ((textR st.1).1, (st.1.extract (textR st.1).2.1 st.1.size, 0))
theorem rdT_size (st : ByteArray × Int) : (rdT st).2.1.size ≤ st.1.size := by
  unfold rdT
  split
  · exact Nat.le_refl _
  · split
    · exact Nat.le_refl _
    · exact extract_size _ _
def txE (s : ByteArray) : Int := if 65536 < s.size then 3 else 0
def txS (s : ByteArray) : ByteArray := if 65536 < s.size then ⟨#[]⟩ else numS s.size ++ s
theorem numR_le (s : ByteArray) (h : (numR s.data.toList).1 = 0) : (numR s.data.toList).2.2 ≤ s.size ∧ (numR s.data.toList).2.1 ≤ 9007199254740992 := by
  obtain ⟨_, h2, h3, _⟩ := numR_back _ h
  rw [size_data] at h2
  exact ⟨h2, h3⟩
theorem ret_sii {a a' : ByteArray} {b b' c c' : Int} (h : a = a') (h' : b = b') (h'' : c = c') : Ending.returned (.tuple #[.string a, .int .i64 b, .int .i64 c]) = .returned (.tuple #[.string a', .int .i64 b', .int .i64 c']) := by rw [h, h', h'']

set_option maxHeartbeats 1000000 in
set_option maxRecDepth 100000 in
theorem text_c (s : ByteArray) (hs : s.size < 9223372036854775807) (w : World) : Calls Try.prog 132 #[.string s] w fun e w' => e = .returned (.tuple #[.string (textR s).1, .int .i64 ((textR s).2.1 : Nat), .int .i64 (textR s).2.2]) ∧ w' = w := by
  have hc := number_c s hs w
  have hle := numR_le s
  generalize hr : textR s = r
  have HR := Lib.hid hr
  clear hr
  unfold textR at HR
  generalize numR s.data.toList = nr at *
  obtain ⟨e, n, k⟩ := nr
  simp only at hc hle HR
  have HS := Lib.hid hs
  by_cases he : e = 0
  · subst he
    obtain ⟨hk, hn⟩ := hle rfl
    have HN := Lib.hid hn
    clear hle hn
    by_cases h1 : 65536 < n
    · have HE : Hid (r = (⟨#[]⟩, 0, 3)) := by show _ = _; rw [← HR.out, if_neg (by simp), if_pos h1]
      have hd : decide ((n : Int) > 65536) = true := decide_eq_true (by omega)
      clear HR hs
      go_enter Try.func132, Try.ntmps132
      go_wp2_with (go_at_call 135; refine hc.mono ?_; rintro e w' ⟨rfl, rfl⟩)
      go_ret3
      exact ⟨by rw [HE.out]; rfl, rfl⟩
    · have hd : decide ((n : Int) > 65536) = false := decide_eq_false (by omega)
      have hw1 : wrap64 ((s.size : Int) - (k : Int)) = (s.size : Int) - (k : Int) := by unfold wrap64; omega
      by_cases h2 : s.size - k < n
      · have HE : Hid (r = (⟨#[]⟩, 0, 4)) := by show _ = _; rw [← HR.out, if_neg (by simp), if_neg h1, if_pos h2]
        have hd2 : decide ((n : Int) > (s.size : Int) - (k : Int)) = true := decide_eq_true (by omega)
        clear HR hs
        go_enter Try.func132, Try.ntmps132
        go_wp2_with (go_at_call 135; refine hc.mono ?_; rintro e w' ⟨rfl, rfl⟩)
        go_ret3
        exact ⟨by rw [HE.out]; rfl, rfl⟩
      · have HE : Hid (r = (s.extract k (k + n), k + n, 0)) := by show _ = _; rw [← HR.out, if_neg (by simp), if_neg h1, if_neg h2]
        have hd2 : decide ((n : Int) > (s.size : Int) - (k : Int)) = false := decide_eq_false (by omega)
        have hb1 : (0 : Int) ≤ (k : Int) ∧ (k : Int) ≤ (k : Int) + (n : Int) ∧ (k : Int) + (n : Int) ≤ (s.size : Int) := by omega
        have hb2 : k + n ≤ s.size := by omega
        have hb3 : (s.size : Int) < 9223372036854775807 := by omega
        clear HR hs
        go_enter Try.func132, Try.ntmps132
        go_wp2_with (go_at_call 135; refine hc.mono ?_; rintro e w' ⟨rfl, rfl⟩)
        go_ret3
        exact ⟨by rw [HE.out]; exact ret_sii rfl (by simp) rfl, rfl⟩
  · have HE : Hid (r = (⟨#[]⟩, 0, e)) := by show _ = _; rw [← HR.out, if_pos he]
    have heb : (e != 0) = true := by simpa using he
    clear HR hs
    go_enter Try.func132, Try.ntmps132
    go_wp2_with (go_at_call 135; refine hc.mono ?_; rintro e w' ⟨rfl, rfl⟩)
    go_ret3
    exact ⟨by rw [HE.out]; rfl, rfl⟩

theorem textR_le (s : ByteArray) (h : (textR s).2.2 = 0) : (textR s).2.1 ≤ s.size := by
  unfold textR at h ⊢
  split at h
  · rename_i g; exact absurd h g
  · split at h
    · cases h
    · split at h
      · cases h
      · rename_i a b c
        rw [if_neg a, if_neg b, if_neg c]
        have := (numR_le s (by simpa using a)).1
        show (numR s.data.toList).2.2 + (numR s.data.toList).2.1 ≤ s.size
        omega

set_option maxHeartbeats 1000000 in
set_option maxRecDepth 100000 in
theorem Text_c (s : ByteArray) (hs : s.size < 9223372036854775807) (w : World) : Calls Try.prog 65 #[.string s] w fun e w' => e = .returned (.tuple #[.string (txS s), .int .i64 (txE s)]) ∧ Below w.heap.size w w' := by
  have HS := Lib.hid hs
  by_cases h : 65536 < s.size
  · have h1 : txS s = ⟨#[]⟩ := if_pos h
    have h2 : txE s = 3 := if_pos h
    rw [h1, h2]; clear h1 h2
    have hd : decide ((s.size : Int) > 65536) = true := decide_eq_true (by omega)
    clear hs
    go_enter Try.func65, Try.ntmps65
    go_wp2
    go_ret2
    exact ⟨rfl, Below.refl _ _⟩
  · have h1 : txS s = numS s.size ++ s := if_neg h
    have h2 : txE s = 0 := if_neg h
    rw [h1, h2]; clear h1 h2
    have hd : decide ((s.size : Int) > 65536) = false := decide_eq_false (by omega)
    have hz := numS_size s.size
    have hn := num_c s.size w
    generalize numS s.size = ns at *
    have hadd := fun w => run_string_add_sum (P := Try.prog) w ns s (by omega)
    clear hz hs
    go_enter Try.func65, Try.ntmps65
    go_wp2_with fail
    refine hn.mono ?_
    rintro e w' ⟨rfl, hb⟩
    go_wp2_with fail
    go_ret2
    exact ⟨rfl, hb⟩

end Go.Proofs.Ytmhkalalcmkpbaa
