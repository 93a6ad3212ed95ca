/-
  wire's Reader: New, Num, Err, Done.
-/
import Derived.Test.YtkmmphcmkmacpaaWireRead2
namespace Go.Proofs.Ytkmmphcmkmacpaa
open Go.RowKit
set_option linter.unusedVariables false
set_option linter.unusedSimpArgs false

/-- A reader of the call's own: what is left, and the error. -/
structure Rdr (w : World) (p : Nat) (s : ByteArray) (e : Int) : Prop where
  lt : p < w.heap.size
  text : w.cell? ⟨p, 0, none⟩ = some (.string s)
  err : w.cell? ⟨p, 1, none⟩ = some (.int .i64 e)
  free0 : w.frozen? ⟨p, 0, none⟩ = false
  free1 : w.frozen? ⟨p, 1, none⟩ = false

theorem ret_int {k : IntKind} {a b : Int} (h : a = b) : Ending.returned (.int k a) = .returned (.int k b) := by rw [h]

set_option maxRecDepth 100000 in
theorem new_c (s : ByteArray) (w : World) : Calls Try.prog 81 #[.string s] w fun e w' => e = .returned (.pointer (some ⟨w.heap.size, 0, none⟩)) ∧ w' = w.alloc (.cells #[.string s, .int .i64 0] 189) := by
  go_enter Try.func81, Try.ntmps81
  go_wp2
  go_ret
  exact ⟨rfl, rfl⟩

set_option maxRecDepth 100000 in
theorem err_c (p : Nat) (s : ByteArray) (e : Int) (w : World) (h : Rdr w p s e) : Calls Try.prog 116 #[.pointer (some ⟨p, 0, none⟩)] w fun r w' => r = .returned (.int .i64 e) ∧ w' = w := by
  have h1 := h.err
  go_enter Try.func116, Try.ntmps116
  go_wp2
  go_ret
  exact ⟨rfl, rfl⟩

set_option maxHeartbeats 1000000 in
set_option maxRecDepth 100000 in
theorem taken_c (p : Nat) (s : ByteArray) (e : Int) (w : World) (h : Rdr w p s e) (hs : s.size < 9223372036854775807) :
    Calls Try.prog 154 #[.pointer (some ⟨p, 0, none⟩), .func (.func 155) #[] #[]] w fun r w' =>
      (e ≠ 0 → r = .returned (.int .i64 0) ∧ w' = w) ∧
      (e = 0 → (numR s.data.toList).1 ≠ 0 → r = .returned (.int .i64 0) ∧ w' = w.setCell ⟨p, 1, none⟩ (.int .i64 (numR s.data.toList).1)) ∧
      (e = 0 → (numR s.data.toList).1 = 0 → r = .returned (.int .i64 ((numR s.data.toList).2.1 : Nat)) ∧ w' = w.setCell ⟨p, 0, none⟩ (.string (s.extract (numR s.data.toList).2.2 s.size))) := by
  have h0 := h.text
  have h1 := h.err
  have f0 := h.free0
  have f1 := h.free1
  have hc := number_c s hs
  have HK : Hid ((numR s.data.toList).1 = 0 → (numR s.data.toList).2.2 ≤ s.size) := by
    intro h
    unfold numR at h ⊢
    have hsz : s.data.toList.length = s.size := by simp
    have hle := endB_le s.data.toList
    split at h
    · cases h
    · split at h
      · cases h
      · split at h
        · cases h
        · split at h
          · cases h
          · rename_i a b c d
            rw [if_neg a, if_neg b, if_neg c, if_neg d]
            show endB s.data.toList + 1 ≤ s.size
            omega
  generalize numR s.data.toList = r at *
  obtain ⟨re, rn, rk⟩ := r
  simp only at *
  have HS : Hid (s.size < 9223372036854775807) := hs
  by_cases he : e = 0
  · subst he
    by_cases hr : re = 0
    · subst hr
      have hk : rk ≤ s.size := HK.out rfl
      go_enter Try.func154, Try.ntmps154
      go_wp2_with (go_at_call 155; refine (hc _).mono ?_; rintro e w' ⟨rfl, rfl⟩)
      go_ret
      exact ⟨fun h => absurd rfl h, fun _ h => absurd rfl h, fun _ _ => ⟨rfl, rfl⟩⟩
    · have hrb : (re != 0) = true := by simpa using hr
      go_enter Try.func154, Try.ntmps154
      go_wp2_with (go_at_call 155; refine (hc _).mono ?_; rintro e w' ⟨rfl, rfl⟩)
      go_ret
      exact ⟨fun h => absurd rfl h, fun _ _ => ⟨rfl, rfl⟩, fun _ h => absurd h hr⟩
  · have heb : (e != 0) = true := by simpa using he
    go_enter Try.func154, Try.ntmps154
    go_wp2
    go_ret
    exact ⟨fun _ => ⟨rfl, rfl⟩, fun h => absurd h he, fun h => absurd h he⟩

/-- What a reader does for a number: the number, what is left and the error. -/
def rdN (st : ByteArray × Int) : Nat × (ByteArray × Int) :=
  if st.2 ≠ 0 then (0, st) else if (numR st.1.data.toList).1 ≠ 0 then (0, (st.1, (numR st.1.data.toList).1)) else ((numR st.1.data.toList).2.1, (st.1.extract (numR st.1.data.toList).2.2 st.1.size, 0))
theorem extract_size (s : ByteArray) (k : Nat) : (s.extract k s.size).size ≤ s.size := by rw [ByteArray.size_extract]; omega
theorem rdN_size (st : ByteArray × Int) : (rdN st).2.1.size ≤ st.1.size := by
  unfold rdN
  split
  · exact Nat.le_refl _
  · split
    · exact Nat.le_refl _
    · exact extract_size _ _
theorem Rdr.start (s : ByteArray) (w : World) : Rdr (w.alloc (.cells #[.string s, .int .i64 0] 189)) w.heap.size s 0 :=
  ⟨by simp, by simp, by simp, by simp, by simp⟩
theorem Rdr.set0 {w : World} {p : Nat} {s : ByteArray} {e : Int} (h : Rdr w p s e) (s' : ByteArray) : Rdr (w.setCell ⟨p, 0, none⟩ (.string s')) p s' e :=
  ⟨by simpa [World.setCell] using h.lt, World.cell?_setCell_same _ _ _ h.text, (World.cell?_setCell_other _ _ _ _ (by intro e; cases e)).trans h.err, by rw [World.frozen?_setCell]; exact h.free0, by rw [World.frozen?_setCell]; exact h.free1⟩
theorem Rdr.set1 {w : World} {p : Nat} {s : ByteArray} {e : Int} (h : Rdr w p s e) (e' : Int) : Rdr (w.setCell ⟨p, 1, none⟩ (.int .i64 e')) p s e' :=
  ⟨by simpa [World.setCell] using h.lt, (World.cell?_setCell_other _ _ _ _ (by intro e; cases e)).trans h.text, World.cell?_setCell_same _ _ _ h.err, by rw [World.frozen?_setCell]; exact h.free0, by rw [World.frozen?_setCell]; exact h.free1⟩
theorem grown_cell (w : World) (p o : Nat) (u : Value) : w.grownBy (w.setCell ⟨p, o, none⟩ u) (some p) :=
  ⟨rfl, rfl, rfl, by simp [World.setCell], fun i hi hne => Below.heap_setCell w ⟨p, o, none⟩ u i (by rintro rfl; exact hne rfl)⟩

set_option maxRecDepth 100000 in
theorem rnum_read (p : Nat) (s : ByteArray) (e : Int) (w : World) (h : Rdr w p s e) (hs : s.size < 9223372036854775807) :
    Calls Try.prog 115 #[.pointer (some ⟨p, 0, none⟩)] w fun r w' =>
      r = .returned (.int .i64 ((rdN (s, e)).1 : Nat)) ∧ Rdr w' p (rdN (s, e)).2.1 (rdN (s, e)).2.2 ∧ w.grownBy w' (some p) := by
  have ht : Calls Try.prog 154 #[.pointer (some ⟨p, 0, none⟩), .func (.func 155) #[] #[]] w fun r w' =>
      r = .returned (.int .i64 ((rdN (s, e)).1 : Nat)) ∧ Rdr w' p (rdN (s, e)).2.1 (rdN (s, e)).2.2 ∧ w.grownBy w' (some p) := by
    refine (taken_c p s e w h hs).mono fun r w' ⟨h1, h2, h3⟩ => ?_
    unfold rdN
    by_cases he : e = 0
    · subst he
      by_cases hr : (numR s.data.toList).1 = 0
      · obtain ⟨rfl, rfl⟩ := h3 rfl hr
        rw [if_neg (by simp), if_neg (by simpa using hr)]
        exact ⟨rfl, h.set0 _, grown_cell _ _ _ _⟩
      · obtain ⟨rfl, rfl⟩ := h2 rfl hr
        rw [if_neg (by simp), if_pos (by simpa using hr)]
        exact ⟨rfl, h.set1 _, grown_cell _ _ _ _⟩
    · obtain ⟨rfl, rfl⟩ := h1 he
      rw [if_pos (by simpa using he)]
      exact ⟨rfl, h, World.grownBy.refl _ _⟩
  clear h
  generalize rdN (s, e) = r at *
  obtain ⟨n, s', e'⟩ := r
  go_enter Try.func115, Try.ntmps115
  go_wp2_with (go_at_call 154; refine ht.mono ?_; rintro e w' ⟨rfl, hrd, hgr⟩)
  go_ret
  exact ⟨rfl, hrd, hgr⟩

/-- What Done answers. -/
def doneE (st : ByteArray × Int) : Int := if st.2 ≠ 0 then st.2 else if st.1.size = 0 then 0 else 5
theorem str_empty_iff (s : ByteArray) : s.toList.isEmpty = decide (s.size = 0) := by
  rw [ByteArray.toList_eq, Bool.eq_iff_iff, List.isEmpty_iff, decide_eq_true_eq]
  rw [← List.length_eq_zero_iff]
  simp

set_option maxRecDepth 100000 in
theorem done_c (p : Nat) (s : ByteArray) (e : Int) (w : World) (h : Rdr w p s e) : Calls Try.prog 84 #[.pointer (some ⟨p, 0, none⟩)] w fun r w' => r = .returned (.int .i64 (doneE (s, e))) ∧ w' = w := by
  have h0 := h.text
  have hc := err_c p s e w h
  clear h
  by_cases he : e = 0
  · subst he
    have hse := str_empty_iff s
    by_cases hz : s.size = 0
    · rw [decide_eq_true hz] at hse
      have hd : doneE (s, 0) = 0 := by unfold doneE; rw [if_neg (by simp), if_pos hz]
      rw [hd]; clear hd hz
      go_enter Try.func84, Try.ntmps84
      go_wp2_with (go_at_call 116; refine hc.mono ?_; rintro e w' ⟨rfl, rfl⟩)
      go_ret
      exact ⟨rfl, rfl⟩
    · rw [decide_eq_false hz] at hse
      have hd : doneE (s, 0) = 5 := by unfold doneE; rw [if_neg (by simp), if_neg hz]
      rw [hd]; clear hd hz
      go_enter Try.func84, Try.ntmps84
      go_wp2_with (go_at_call 116; refine hc.mono ?_; rintro e w' ⟨rfl, rfl⟩)
      go_ret
      exact ⟨rfl, rfl⟩
  · have heb : (e != 0) = true := by simpa using he
    have hd : doneE (s, e) = e := by unfold doneE; rw [if_pos (by simpa using he)]
    rw [hd]; clear hd
    go_enter Try.func84, Try.ntmps84
    go_wp2_with (go_at_call 116; refine hc.mono ?_; rintro e w' ⟨rfl, rfl⟩)
    go_ret
    exact ⟨rfl, rfl⟩
end Go.Proofs.Ytkmmphcmkmacpaa
