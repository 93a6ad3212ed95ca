/-
  ChunkR ChunkRR
-/
import Derived.Test.YtmhkalalcmkpbaaGreatZChunkW
namespace Go.Proofs.YtmhkalalcmkpbaaGreat
open Go.RowKit
set_option linter.unusedVariables false
set_option linter.unusedSimpArgs false

/-- The manifest of bytes, or the error. -/
def readM (s : ByteArray) : (Int × Int × List ByteArray) × Int :=
  if doneE (rdLs (rdN (rdN (s, 0)).2).2).2 ≠ 0 then ((0, 0, []), doneE (rdLs (rdN (rdN (s, 0)).2).2).2) else
  if chkM (rdN (s, 0)).1 (rdN (rdN (s, 0)).2).1 (rdLs (rdN (rdN (s, 0)).2).2).1 ≠ 0 then ((0, 0, []), chkM (rdN (s, 0)).1 (rdN (rdN (s, 0)).2).1 (rdLs (rdN (rdN (s, 0)).2).2).1) else
  ((((rdN (s, 0)).1 : Int), ((rdN (rdN (s, 0)).2).1 : Int), (rdLs (rdN (rdN (s, 0)).2).2).1), 0)
theorem rdT_tsize (st : ByteArray × Int) : (rdT st).1.size ≤ st.1.size := by
  unfold rdT
  split
  · exact Nat.zero_le _
  · split
    · exact Nat.zero_le _
    · unfold textR
      split
      · exact Nat.zero_le _
      · split
        · exact Nat.zero_le _
        · split
          · exact Nat.zero_le _
          · show (st.1.extract _ _).size ≤ _
            rw [ByteArray.size_extract]; omega
theorem rdTs_each : ∀ (n : Nat) (st : ByteArray × Int), ∀ t ∈ (rdTs n st).1, t.size ≤ st.1.size := by
  intro n
  induction n with
  | zero => intro st t ht; simp [rdTs] at ht
  | succ n ih =>
    intro st t ht
    by_cases h : st.2 = 0
    · rw [rdTs_step _ _ h] at ht
      rcases List.mem_cons.1 ht with rfl | ht
      · exact rdT_tsize st
      · exact Nat.le_trans (ih _ t ht) (rdT_size st)
    · rw [rdTs_stop _ _ h] at ht; simp at ht
theorem rdLs_each (st : ByteArray × Int) : ∀ t ∈ (rdLs st).1, t.size ≤ st.1.size := by
  intro t ht
  unfold rdLs at ht
  split at ht
  · simp at ht
  · split at ht
    · simp at ht
    · split at ht
      · simp at ht
      · split at ht
        · simp at ht
        · exact Nat.le_trans (rdTs_each _ _ t ht) (rdN_size st)
/-- A manifest came back, its ids in the call's own slice. -/
def RetM (w0 : Nat) (w' : World) (e : Ending) (r : (Int × Int × List ByteArray) × Int) : Prop := ∃ A c, e = .returned (.tuple #[.agg #[.int .i64 r.1.1, .int .i64 r.1.2.1, .slice A r.1.2.2.length c], .int .i64 r.2]) ∧ r.1.2.2.length ≤ c ∧ OwnS w' w0 (.slice A r.1.2.2.length c) r.1.2.2
theorem res_M (a : Act) (w : World) (g : Nat) (x y : Int) (v : Value) (e : Int) (h1 : a.tmps.getD 2 undef = .pointer (some ⟨g, 0, none⟩)) (h2 : a.tmps.getD 3 undef = .int .i64 e)
    (c0 : w.cell? ⟨g, 0, none⟩ = some (.int .i64 x)) (c1 : w.cell? ⟨g, 1, none⟩ = some (.int .i64 y)) (c2 : w.cell? ⟨g, 2, none⟩ = some v) :
    (results Tryz.f48 a.tmps).run Tryz.prog w = .ok (.tuple #[.agg #[.int .i64 x, .int .i64 y, v], .int .i64 e]) w := by
  rw [results_cell_tmp (p := 2) (u := 3) (ty := 69) rfl, h1, h2]
  go_simp
theorem res_MR (a : Act) (w : World) (g : Nat) (x y : Int) (v : Value) (e : Int) (h1 : a.tmps.getD 2 undef = .pointer (some ⟨g, 0, none⟩)) (h2 : a.tmps.getD 3 undef = .int .i64 e)
    (c0 : w.cell? ⟨g, 0, none⟩ = some (.int .i64 x)) (c1 : w.cell? ⟨g, 1, none⟩ = some (.int .i64 y)) (c2 : w.cell? ⟨g, 2, none⟩ = some v) :
    (results Tryz.f32 a.tmps).run Tryz.prog w = .ok (.tuple #[.agg #[.int .i64 x, .int .i64 y, v], .int .i64 e]) w := by
  rw [results_cell_tmp (p := 2) (u := 3) (ty := 69) rfl, h1, h2]
  go_simp
set_option maxHeartbeats 4000000 in
set_option maxRecDepth 100000 in
theorem mread_c (s : ByteArray) (hs : s.size < 1000000000) (w : World) :
    Calls Tryz.prog 48 #[.string s] w fun e w' => RetM w.heap.size w' e (readM s) ∧ Below w.heap.size w w' := by
  have hn1 := fun W p (h : Rdr W p s 0) => rnum_read p s 0 W h (by omega)
  have hz1 := rdN_size (s, 0)
  have hrm0 : readM s = readM s := rfl
  conv at hrm0 => rhs; unfold readM
  have HRM := Lib.hid hrm0
  clear hrm0
  simp only at hz1
  generalize hrm : readM s = r at *
  clear hrm
  generalize rdN (s, 0) = q1 at *
  obtain ⟨n1, s1, e1⟩ := q1
  simp only at hn1 hz1 HRM
  have hn2 := fun W p (h : Rdr W p s1 e1) => rnum_read p s1 e1 W h (by omega)
  have hz2 := rdN_size (s1, e1)
  simp only at hz2
  generalize rdN (s1, e1) = q2 at *
  obtain ⟨n2, s2, e2⟩ := q2
  simp only at hn2 hz2 HRM
  have hn3 := fun W p (h : Rdr W p s2 e2) => rlist_read p s2 e2 W h (by omega)
  have hz3 := rdLs_size (s2, e2)
  have HLN := Lib.hid (rdLs_len (s2, e2))
  have HEA : Hid (∀ t ∈ (rdLs (s2, e2)).1, t.size < 1000000000) := fun t ht => by have := rdLs_each (s2, e2) t ht; simp only at this; omega
  simp only at hz3
  generalize rdLs (s2, e2) = q3 at *
  obtain ⟨ids, s3, e3⟩ := q3
  simp only at hn3 hz3 HRM HLN HEA
  have hdn := fun W p (h : Rdr W p s3 e3) => (done_c p s3 e3 W h).mono fun r w' (g : _ ∧ w' = W) => (⟨g.1, g.2.symm⟩ : _ ∧ W = w')
  have hck := fun W A c (h : RdS W W.heap.size A ids.length ids) => mchk_c (n1 : Int) (n2 : Int) A ids.length c W.heap.size ids W h (Nat.le_refl _) (by have := HLN.out; omega) HEA.out
  generalize doneE (s3, e3) = d at *
  generalize chkM (n1 : Int) (n2 : Int) ids = ck at *
  go_enter Tryz.func48, Tryz.ntmps48
  go_wp2_with fail
  have HG : Hid (∀ X, Below (w.heap.size + 1) (w.alloc (.cells #[.int .i64 0, .int .i64 0, .slice none 0 0] 69)) X → X.cell? ⟨w.heap.size, 0, none⟩ = some (.int .i64 0) ∧ X.cell? ⟨w.heap.size, 1, none⟩ = some (.int .i64 0) ∧ X.cell? ⟨w.heap.size, 2, none⟩ = some (.slice none 0 0) ∧
      X.frozen? ⟨w.heap.size, 0, none⟩ = false ∧ X.frozen? ⟨w.heap.size, 1, none⟩ = false ∧ X.frozen? ⟨w.heap.size, 2, none⟩ = false) := fun X hX =>
    ⟨(hX.cell (p := ⟨w.heap.size, 0, none⟩) (Nat.lt_succ_self _)).trans (by simp), (hX.cell (p := ⟨w.heap.size, 1, none⟩) (Nat.lt_succ_self _)).trans (by simp), (hX.cell (p := ⟨w.heap.size, 2, none⟩) (Nat.lt_succ_self _)).trans (by simp),
     (hX.frozen (p := ⟨w.heap.size, 0, none⟩) (Nat.lt_succ_self _)).trans (by simp), (hX.frozen (p := ⟨w.heap.size, 1, none⟩) (Nat.lt_succ_self _)).trans (by simp), (hX.frozen (p := ⟨w.heap.size, 2, none⟩) (Nat.lt_succ_self _)).trans (by simp)⟩
  have HZ1 : Hid ((w.alloc (.cells #[.int .i64 0, .int .i64 0, .slice none 0 0] 69)).heap.size = w.heap.size + 1) := by show _ = _; simp
  have HBW : Hid (Below w.heap.size w (w.alloc (.cells #[.int .i64 0, .int .i64 0, .slice none 0 0] 69))) := (Below.refl _ _).alloc (Nat.le_refl _) _
  generalize hw1 : w.alloc (.cells #[.int .i64 0, .int .i64 0, .slice none 0 0] 69) = w1 at *
  clear hw1
  have HW : Hid (∀ X, Below w1.heap.size w1 X → Below w.heap.size w X) := fun X hX => HBW.out.trans (hX.mono HBW.out.size)
  have HG2 : Hid (∀ X, Below w1.heap.size w1 X → X.cell? ⟨w.heap.size, 0, none⟩ = some (.int .i64 0) ∧ X.cell? ⟨w.heap.size, 1, none⟩ = some (.int .i64 0) ∧ X.cell? ⟨w.heap.size, 2, none⟩ = some (.slice none 0 0) ∧
      X.frozen? ⟨w.heap.size, 0, none⟩ = false ∧ X.frozen? ⟨w.heap.size, 1, none⟩ = false ∧ X.frozen? ⟨w.heap.size, 2, none⟩ = false) := fun X hX => HG.out X (hX.mono (Nat.le_of_eq HZ1.out.symm))
  have HLT : Hid (w.heap.size < w1.heap.size) := by show _ < _; rw [HZ1.out]; exact Nat.lt_succ_self _
  clear HG
  refine (new_c s w1).mono ?_
  rintro e w2 ⟨rfl, rfl⟩
  have hr2 := Rdr.start s w1
  have HB2 : Hid (Below w1.heap.size w1 (w1.alloc (.cells #[.string s, .int .i64 0] 106))) := (Below.refl _ _).alloc (Nat.le_refl _) _
  generalize w1.alloc (.cells #[.string s, .int .i64 0] 106) = w2 at *
  have h1 := hn1 w2 _ hr2
  clear hn1 hr2
  go_wp2_with fail
  refine h1.mono ?_
  rintro e w3 ⟨rfl, hr3, hg3⟩
  have HB3 : Hid (Below w1.heap.size w1 w3) := HB2.out.trans (below_of_grown hg3 HB2.out.size (Nat.le_refl _))
  have h2 := hn2 w3 _ hr3
  clear hn2 hr3 hg3 HB2 h1
  go_wp2_with fail
  refine h2.mono ?_
  rintro e w4 ⟨rfl, hr4, hg4⟩
  have HB4 : Hid (Below w1.heap.size w1 w4) := HB3.out.trans (below_of_grown hg4 HB3.out.size (Nat.le_refl _))
  have h3 := hn3 w4 _ hr4
  clear hn3 hr4 hg4 HB3 h2
  go_wp2_with fail
  refine h3.mono ?_
  rintro e w5 ⟨⟨v, rfl, ho5⟩, hr5, hg5⟩
  obtain ⟨A, c, rfl, hcc, hrd5⟩ := OwnS.form ho5
  have HCC := Lib.hid hcc
  have HB5 : Hid (Below w1.heap.size w1 w5) := HB4.out.trans (below_of_grown hg5 HB4.out.size (Nat.le_refl _))
  have HO6 : Hid (OwnS (w5.alloc (.cells #[.int .i64 (n1 : Int), .int .i64 (n2 : Int), .slice A ids.length c] 69)) w1.heap.size (.slice A ids.length c) ids) := (World.ownsRow.mono ho5 HB4.out.size).alloc _
  have HRD6 : Hid (RdS (w5.alloc (.cells #[.int .i64 (n1 : Int), .int .i64 (n2 : Int), .slice A ids.length c] 69)) (w5.alloc (.cells #[.int .i64 (n1 : Int), .int .i64 (n2 : Int), .slice A ids.length c] 69)).heap.size A ids.length ids) := Reads.more (Reads.alloc hrd5 (Nat.le_refl _) _) (by simp)
  have HB6 : Hid (Below w1.heap.size w1 (w5.alloc (.cells #[.int .i64 (n1 : Int), .int .i64 (n2 : Int), .slice A ids.length c] 69))) := HB5.out.alloc HB5.out.size _
  have hr6 := hr5.alloc (.cells #[.int .i64 (n1 : Int), .int .i64 (n2 : Int), .slice A ids.length c] 69)
  have g6a : (w5.alloc (.cells #[.int .i64 (n1 : Int), .int .i64 (n2 : Int), .slice A ids.length c] 69)).cell? ⟨w5.heap.size, 0, none⟩ = some (.int .i64 (n1 : Int)) := by simp
  have g6b : (w5.alloc (.cells #[.int .i64 (n1 : Int), .int .i64 (n2 : Int), .slice A ids.length c] 69)).cell? ⟨w5.heap.size, 1, none⟩ = some (.int .i64 (n2 : Int)) := by simp
  have g6c : (w5.alloc (.cells #[.int .i64 (n1 : Int), .int .i64 (n2 : Int), .slice A ids.length c] 69)).cell? ⟨w5.heap.size, 2, none⟩ = some (.slice A ids.length c) := by simp
  clear hcc ho5 hr5 hg5 hrd5 h3 HB4 HB5
  go_wp2_with fail
  generalize w5.alloc (.cells #[.int .i64 (n1 : Int), .int .i64 (n2 : Int), .slice A ids.length c] 69) = w6 at *
  refine (hdn w6 _ hr6).mono ?_
  rintro e w7 ⟨rfl, rfl⟩
  clear hdn hr6
  by_cases hd : d = 0
  · subst hd
    have HRM2 : Hid (r = if ck ≠ 0 then ((0, 0, []), ck) else (((n1 : Int), (n2 : Int), ids), 0)) := by show _ = _; rw [HRM.out, if_neg (by simp)]
    clear HRM
    go_wp2_with fail
    refine (hck w6 A c HRD6.out).mono ?_
    rintro e w8 ⟨rfl, hb8⟩
    have HB8 : Hid (Below w1.heap.size w1 w8) := HB6.out.trans (hb8.mono HB6.out.size)
    have g8a := keepc hb8 g6a
    have g8b := keepc hb8 g6b
    have g8c := keepc hb8 g6c
    have HO8 : Hid (OwnS w8 w1.heap.size (.slice A ids.length c) ids) := own_below HO6.out hb8
    clear hb8 g6a g6b g6c hck
    by_cases hk : ck = 0
    · subst hk
      obtain ⟨x0, x1, x2, x3, x4, x5⟩ := HG2.out w8 HB8.out
      have HF : Hid (r = (((n1 : Int), (n2 : Int), ids), 0)) := by show _ = _; rw [HRM2.out, if_neg (by simp)]
      have HBF : Hid (∀ u1 u2 u3, Below w.heap.size w (((w8.setCell ⟨w.heap.size, 0, none⟩ u1).setCell ⟨w.heap.size, 1, none⟩ u2).setCell ⟨w.heap.size, 2, none⟩ u3)) := fun u1 u2 u3 => (((HW.out _ HB8.out).setCell (Nat.le_refl _) _).setCell (Nat.le_refl _) _).setCell (Nat.le_refl _) _
      have HOF : Hid (∀ u1 u2 u3, OwnS (((w8.setCell ⟨w.heap.size, 0, none⟩ u1).setCell ⟨w.heap.size, 1, none⟩ u2).setCell ⟨w.heap.size, 2, none⟩ u3) w.heap.size (.slice A ids.length c) ids) := fun u1 u2 u3 =>
        World.ownsRow.mono (own_grown (own_grown (own_grown HO8.out (grown_cell _ w.heap.size 0 u1) HLT.out) (grown_cell _ w.heap.size 1 u2) HLT.out) (grown_cell _ w.heap.size 2 u3) HLT.out) (Nat.le_of_lt HLT.out)
      clear HRM2 HO8
      go_wp2_with fail
      refine bodyPost_ret (res_M _ _ w.heap.size (n1 : Int) (n2 : Int) (.slice A ids.length c) 0 rfl rfl ?_ ?_ ?_) rfl ?_
      · go_simp
      · go_simp
      · go_simp
      · rw [HF.out]
        exact ⟨⟨_, _, rfl, HCC.out, HOF.out _ _ _⟩, HBF.out _ _ _⟩
    · have hkb : (ck != 0) = true := by simpa using hk
      obtain ⟨x0, x1, x2, x3, x4, x5⟩ := HG2.out w8 HB8.out
      have HF : Hid (r = ((0, 0, []), ck)) := by show _ = _; rw [HRM2.out, if_pos hk]
      have HBF : Hid (∀ u1 u2 u3, Below w.heap.size w (((w8.setCell ⟨w.heap.size, 0, none⟩ u1).setCell ⟨w.heap.size, 1, none⟩ u2).setCell ⟨w.heap.size, 2, none⟩ u3)) := fun u1 u2 u3 => (((HW.out _ HB8.out).setCell (Nat.le_refl _) _).setCell (Nat.le_refl _) _).setCell (Nat.le_refl _) _
      go_wp2_with fail
      refine bodyPost_ret (res_M _ _ w.heap.size 0 0 (.slice none 0 0) ck rfl rfl ?_ ?_ ?_) rfl ?_
      · go_simp
      · go_simp
      · go_simp
      · rw [HF.out]
        exact ⟨⟨none, 0, rfl, Nat.zero_le _, OwnS.nil _ _⟩, HBF.out _ _ _⟩
  · have hdb : (d != 0) = true := by simpa using hd
    have hdb2 : (d == 0) = false := by simpa using hd
    clear hck
    obtain ⟨x0, x1, x2, x3, x4, x5⟩ := HG2.out w6 HB6.out
    have HF : Hid (r = ((0, 0, []), d)) := by show _ = _; rw [HRM.out, if_pos hd]
    have HBF : Hid (∀ u1 u2 u3, Below w.heap.size w (((w6.setCell ⟨w.heap.size, 0, none⟩ u1).setCell ⟨w.heap.size, 1, none⟩ u2).setCell ⟨w.heap.size, 2, none⟩ u3)) := fun u1 u2 u3 => (((HW.out _ HB6.out).setCell (Nat.le_refl _) _).setCell (Nat.le_refl _) _).setCell (Nat.le_refl _) _
    go_wp2_with fail
    refine bodyPost_ret (res_M _ _ w.heap.size 0 0 (.slice none 0 0) d rfl rfl ?_ ?_ ?_) rfl ?_
    · go_simp
    · go_simp
    · go_simp
    · rw [HF.out]
      exact ⟨⟨none, 0, rfl, Nat.zero_le _, OwnS.nil _ _⟩, HBF.out _ _ _⟩
end Go.Proofs.YtmhkalalcmkpbaaGreat

namespace Go.Proofs.YtmhkalalcmkpbaaGreat
open Go.RowKit
set_option linter.unusedVariables false
set_option linter.unusedSimpArgs false

set_option maxHeartbeats 4000000 in
set_option maxRecDepth 100000 in
theorem rmread_c (s : ByteArray) (hs : s.size < 1000000000) (w : World) :
    Calls Tryz.prog 32 #[.string s] w fun e w' => RetM w.heap.size w' e (readM s) ∧ Below w.heap.size w w' := by
  have hn1 := fun W => rrnum_c s 0 (by omega) W
  have hz1 := rdN_size (s, 0)
  have hrm0 : readM s = readM s := rfl
  conv at hrm0 => rhs; unfold readM
  have HRM := Lib.hid hrm0
  clear hrm0
  simp only at hz1
  generalize hrm : readM s = r at *
  clear hrm
  generalize rdN (s, 0) = q1 at *
  obtain ⟨n1, s1, e1⟩ := q1
  simp only at hn1 hz1 HRM
  have hn2 := fun W => rrnum_c s1 e1 (by omega) W
  have hz2 := rdN_size (s1, e1)
  simp only at hz2
  generalize rdN (s1, e1) = q2 at *
  obtain ⟨n2, s2, e2⟩ := q2
  simp only at hn2 hz2 HRM
  have hn3 := fun W => rrlist_c s2 e2 (by omega) W
  have hz3 := rdLs_size (s2, e2)
  have HLN := Lib.hid (rdLs_len (s2, e2))
  have HEA : Hid (∀ t ∈ (rdLs (s2, e2)).1, t.size < 1000000000) := fun t ht => by have := rdLs_each (s2, e2) t ht; simp only at this; omega
  simp only at hz3
  generalize rdLs (s2, e2) = q3 at *
  obtain ⟨ids, s3, e3⟩ := q3
  simp only at hn3 hz3 HRM HLN HEA
  have hdn := fun W => rdone_c s3 e3 W
  have hck := fun W A c (h : RdS W W.heap.size A ids.length ids) => rmchk_c (n1 : Int) (n2 : Int) A ids.length c W.heap.size ids W h (Nat.le_refl _) (by have := HLN.out; omega) HEA.out
  generalize doneE (s3, e3) = d at *
  generalize chkM (n1 : Int) (n2 : Int) ids = ck at *
  go_enter Tryz.func32, Tryz.ntmps32
  go_wp2_with fail
  have HG : Hid (∀ X, Below (w.heap.size + 1) (w.alloc (.cells #[.int .i64 0, .int .i64 0, .slice none 0 0] 69)) X → X.cell? ⟨w.heap.size, 0, none⟩ = some (.int .i64 0) ∧ X.cell? ⟨w.heap.size, 1, none⟩ = some (.int .i64 0) ∧ X.cell? ⟨w.heap.size, 2, none⟩ = some (.slice none 0 0) ∧
      X.frozen? ⟨w.heap.size, 0, none⟩ = false ∧ X.frozen? ⟨w.heap.size, 1, none⟩ = false ∧ X.frozen? ⟨w.heap.size, 2, none⟩ = false) := fun X hX =>
    ⟨(hX.cell (p := ⟨w.heap.size, 0, none⟩) (Nat.lt_succ_self _)).trans (by simp), (hX.cell (p := ⟨w.heap.size, 1, none⟩) (Nat.lt_succ_self _)).trans (by simp), (hX.cell (p := ⟨w.heap.size, 2, none⟩) (Nat.lt_succ_self _)).trans (by simp),
     (hX.frozen (p := ⟨w.heap.size, 0, none⟩) (Nat.lt_succ_self _)).trans (by simp), (hX.frozen (p := ⟨w.heap.size, 1, none⟩) (Nat.lt_succ_self _)).trans (by simp), (hX.frozen (p := ⟨w.heap.size, 2, none⟩) (Nat.lt_succ_self _)).trans (by simp)⟩
  have HZ1 : Hid ((w.alloc (.cells #[.int .i64 0, .int .i64 0, .slice none 0 0] 69)).heap.size = w.heap.size + 1) := by show _ = _; simp
  have HBW : Hid (Below w.heap.size w (w.alloc (.cells #[.int .i64 0, .int .i64 0, .slice none 0 0] 69))) := (Below.refl _ _).alloc (Nat.le_refl _) _
  generalize hw1 : w.alloc (.cells #[.int .i64 0, .int .i64 0, .slice none 0 0] 69) = w1 at *
  clear hw1
  have HW : Hid (∀ X, Below w1.heap.size w1 X → Below w.heap.size w X) := fun X hX => HBW.out.trans (hX.mono HBW.out.size)
  have HG2 : Hid (∀ X, Below w1.heap.size w1 X → X.cell? ⟨w.heap.size, 0, none⟩ = some (.int .i64 0) ∧ X.cell? ⟨w.heap.size, 1, none⟩ = some (.int .i64 0) ∧ X.cell? ⟨w.heap.size, 2, none⟩ = some (.slice none 0 0) ∧
      X.frozen? ⟨w.heap.size, 0, none⟩ = false ∧ X.frozen? ⟨w.heap.size, 1, none⟩ = false ∧ X.frozen? ⟨w.heap.size, 2, none⟩ = false) := fun X hX => HG.out X (hX.mono (Nat.le_of_eq HZ1.out.symm))
  have HLT : Hid (w.heap.size < w1.heap.size) := by show _ < _; rw [HZ1.out]; exact Nat.lt_succ_self _
  clear HG
  refine (hn1 w1).mono ?_
  rintro e w2 ⟨rfl, hb2⟩
  have HB2 : Hid (Below w1.heap.size w1 (w2.alloc (.cells #[.string s1, .int .i64 e1] 90))) := hb2.alloc hb2.size _
  have hr2 : Rdr (w2.alloc (.cells #[.string s1, .int .i64 e1] 90)) w2.heap.size s1 e1 := Rdr.make _ _ _ _
  have HPL : Hid (w1.heap.size ≤ w2.heap.size) := hb2.size
  have HPL2 : Hid (w2.heap.size < (w2.alloc (.cells #[.string s1, .int .i64 e1] 90)).heap.size) := hr2.lt
  have c0 := hr2.text
  have c1 := hr2.err
  clear hn1 hb2
  go_wp2_with fail
  generalize w2.alloc (.cells #[.string s1, .int .i64 e1] 90) = w3 at *
  generalize hp : w2.heap.size = p at *
  clear hp
  refine (hn2 w3).mono ?_
  rintro e w4 ⟨rfl, hb4⟩
  have hr4 := hr2.grown hb4 hr2.lt
  have HR4 := Lib.hid ((hr4.set0 s2).set1 e2)
  have HB4 : Hid (Below w1.heap.size w1 ((w4.setCell ⟨p, 0, none⟩ (.string s2)).setCell ⟨p, 1, none⟩ (.int .i64 e2))) := ((HB2.out.trans (hb4.mono HB2.out.size)).setCell HPL.out _).setCell HPL.out _
  have k0 := hr4.text
  have k1 := hr4.err
  have k2 := hr4.free0
  have k3 := hr4.free1
  have HP4 : Hid (p < ((w4.setCell ⟨p, 0, none⟩ (.string s2)).setCell ⟨p, 1, none⟩ (.int .i64 e2)).heap.size) := HR4.out.lt
  have c0' := HR4.out.text
  have c1' := HR4.out.err
  clear hn2 hb4 hr2 hr4 c0 c1 HB2
  go_wp2_with fail
  clear k0 k1 k2 k3
  generalize (w4.setCell ⟨p, 0, none⟩ (.string s2)).setCell ⟨p, 1, none⟩ (.int .i64 e2) = w5 at *
  refine (hn3 w5).mono ?_
  rintro e w6 ⟨⟨v, rfl, ho6⟩, hb6⟩
  obtain ⟨A, c, rfl, hcc, hrd6⟩ := OwnS.form ho6
  have HCC := Lib.hid hcc
  have hr6 := HR4.out.grown hb6 HR4.out.lt
  have HR7 := Lib.hid (((hr6.set0 s3).set1 e3).alloc (.cells #[.int .i64 (n1 : Int), .int .i64 (n2 : Int), .slice A ids.length c] 69))
  have HB7 : Hid (Below w1.heap.size w1 (((w6.setCell ⟨p, 0, none⟩ (.string s3)).setCell ⟨p, 1, none⟩ (.int .i64 e3)).alloc (.cells #[.int .i64 (n1 : Int), .int .i64 (n2 : Int), .slice A ids.length c] 69))) := (((HB4.out.trans (hb6.mono HB4.out.size)).setCell HPL.out _).setCell HPL.out _).alloc (by have h1 := HB4.out.size; have h2 := hb6.size; simp [World.setCell]; omega) _
  have ho7 := own_grown (own_grown ho6 (grown_cell _ p 0 (.string s3)) HP4.out) (grown_cell _ p 1 (.int .i64 e3)) HP4.out
  have HO7 : Hid (OwnS (((w6.setCell ⟨p, 0, none⟩ (.string s3)).setCell ⟨p, 1, none⟩ (.int .i64 e3)).alloc (.cells #[.int .i64 (n1 : Int), .int .i64 (n2 : Int), .slice A ids.length c] 69)) w1.heap.size (.slice A ids.length c) ids) := (World.ownsRow.mono ho7 HB4.out.size).alloc _
  have k0 := hr6.text
  have k1 := hr6.err
  have k2 := hr6.free0
  have k3 := hr6.free1
  have g7a : (((w6.setCell ⟨p, 0, none⟩ (.string s3)).setCell ⟨p, 1, none⟩ (.int .i64 e3)).alloc (.cells #[.int .i64 (n1 : Int), .int .i64 (n2 : Int), .slice A ids.length c] 69)).cell? ⟨w6.heap.size, 0, none⟩ = some (.int .i64 (n1 : Int)) := by go_simp
  have g7b : (((w6.setCell ⟨p, 0, none⟩ (.string s3)).setCell ⟨p, 1, none⟩ (.int .i64 e3)).alloc (.cells #[.int .i64 (n1 : Int), .int .i64 (n2 : Int), .slice A ids.length c] 69)).cell? ⟨w6.heap.size, 1, none⟩ = some (.int .i64 (n2 : Int)) := by go_simp
  have g7c : (((w6.setCell ⟨p, 0, none⟩ (.string s3)).setCell ⟨p, 1, none⟩ (.int .i64 e3)).alloc (.cells #[.int .i64 (n1 : Int), .int .i64 (n2 : Int), .slice A ids.length c] 69)).cell? ⟨w6.heap.size, 2, none⟩ = some (.slice A ids.length c) := by go_simp
  have c7 := HR7.out.text
  have c7' := HR7.out.err
  clear hn3 hb6 hcc hrd6 hr6 ho6 ho7 c0' c1' HR4 HB4
  go_wp2_with fail
  clear k0 k1 k2 k3
  generalize ((w6.setCell ⟨p, 0, none⟩ (.string s3)).setCell ⟨p, 1, none⟩ (.int .i64 e3)).alloc (.cells #[.int .i64 (n1 : Int), .int .i64 (n2 : Int), .slice A ids.length c] 69) = w7 at *
  refine (hdn w7).mono ?_
  rintro e w9 ⟨rfl, hb9⟩
  have g6a := keepc hb9 g7a
  have g6b := keepc hb9 g7b
  have g6c := keepc hb9 g7c
  have HB6 : Hid (Below w1.heap.size w1 w9) := HB7.out.trans (hb9.mono HB7.out.size)
  have HO6 : Hid (OwnS w9 w1.heap.size (.slice A ids.length c) ids) := own_below HO7.out hb9
  obtain ⟨A9, c9, hv9, _, hrd9⟩ := OwnS.form HO6.out
  have HRD6 : Hid (RdS w9 w9.heap.size A ids.length ids) := by
    injection hv9 with h1 h2 h3
    show RdS _ _ _ _ _
    rw [h1]; exact hrd9
  clear hdn hb9 g7a g7b g7c c7 c7' HR7 HB7 HO7 hv9 hrd9
  by_cases hd : d = 0
  · subst hd
    have HRM2 : Hid (r = if ck ≠ 0 then ((0, 0, []), ck) else (((n1 : Int), (n2 : Int), ids), 0)) := by show _ = _; rw [HRM.out, if_neg (by simp)]
    clear HRM
    go_wp2_with fail
    refine (hck w9 A c HRD6.out).mono ?_
    rintro e w8 ⟨rfl, hb8⟩
    have HB8 : Hid (Below w1.heap.size w1 w8) := HB6.out.trans (hb8.mono HB6.out.size)
    have g8a := keepc hb8 g6a
    have g8b := keepc hb8 g6b
    have g8c := keepc hb8 g6c
    have HO8 : Hid (OwnS w8 w1.heap.size (.slice A ids.length c) ids) := own_below HO6.out hb8
    clear hb8 g6a g6b g6c hck
    by_cases hk : ck = 0
    · subst hk
      obtain ⟨x0, x1, x2, x3, x4, x5⟩ := HG2.out w8 HB8.out
      have HF : Hid (r = (((n1 : Int), (n2 : Int), ids), 0)) := by show _ = _; rw [HRM2.out, if_neg (by simp)]
      have HBF : Hid (∀ u1 u2 u3, Below w.heap.size w (((w8.setCell ⟨w.heap.size, 0, none⟩ u1).setCell ⟨w.heap.size, 1, none⟩ u2).setCell ⟨w.heap.size, 2, none⟩ u3)) := fun u1 u2 u3 => (((HW.out _ HB8.out).setCell (Nat.le_refl _) _).setCell (Nat.le_refl _) _).setCell (Nat.le_refl _) _
      have HOF : Hid (∀ u1 u2 u3, OwnS (((w8.setCell ⟨w.heap.size, 0, none⟩ u1).setCell ⟨w.heap.size, 1, none⟩ u2).setCell ⟨w.heap.size, 2, none⟩ u3) w.heap.size (.slice A ids.length c) ids) := fun u1 u2 u3 =>
        World.ownsRow.mono (own_grown (own_grown (own_grown HO8.out (grown_cell _ w.heap.size 0 u1) HLT.out) (grown_cell _ w.heap.size 1 u2) HLT.out) (grown_cell _ w.heap.size 2 u3) HLT.out) (Nat.le_of_lt HLT.out)
      clear HRM2 HO8
      go_wp2_with fail
      refine bodyPost_ret (res_MR _ _ w.heap.size (n1 : Int) (n2 : Int) (.slice A ids.length c) 0 rfl rfl ?_ ?_ ?_) rfl ?_
      · go_simp
      · go_simp
      · go_simp
      · rw [HF.out]
        exact ⟨⟨_, _, rfl, HCC.out, HOF.out _ _ _⟩, HBF.out _ _ _⟩
    · have hkb : (ck != 0) = true := by simpa using hk
      obtain ⟨x0, x1, x2, x3, x4, x5⟩ := HG2.out w8 HB8.out
      have HF : Hid (r = ((0, 0, []), ck)) := by show _ = _; rw [HRM2.out, if_pos hk]
      have HBF : Hid (∀ u1 u2 u3, Below w.heap.size w (((w8.setCell ⟨w.heap.size, 0, none⟩ u1).setCell ⟨w.heap.size, 1, none⟩ u2).setCell ⟨w.heap.size, 2, none⟩ u3)) := fun u1 u2 u3 => (((HW.out _ HB8.out).setCell (Nat.le_refl _) _).setCell (Nat.le_refl _) _).setCell (Nat.le_refl _) _
      go_wp2_with fail
      refine bodyPost_ret (res_MR _ _ w.heap.size 0 0 (.slice none 0 0) ck rfl rfl ?_ ?_ ?_) rfl ?_
      · go_simp
      · go_simp
      · go_simp
      · rw [HF.out]
        exact ⟨⟨none, 0, rfl, Nat.zero_le _, OwnS.nil _ _⟩, HBF.out _ _ _⟩
  · have hdb : (d != 0) = true := by simpa using hd
    have hdb2 : (d == 0) = false := by simpa using hd
    clear hck
    obtain ⟨x0, x1, x2, x3, x4, x5⟩ := HG2.out w9 HB6.out
    have HF : Hid (r = ((0, 0, []), d)) := by show _ = _; rw [HRM.out, if_pos hd]
    have HBF : Hid (∀ u1 u2 u3, Below w.heap.size w (((w9.setCell ⟨w.heap.size, 0, none⟩ u1).setCell ⟨w.heap.size, 1, none⟩ u2).setCell ⟨w.heap.size, 2, none⟩ u3)) := fun u1 u2 u3 => (((HW.out _ HB6.out).setCell (Nat.le_refl _) _).setCell (Nat.le_refl _) _).setCell (Nat.le_refl _) _
    go_wp2_with fail
    refine bodyPost_ret (res_MR _ _ w.heap.size 0 0 (.slice none 0 0) d rfl rfl ?_ ?_ ?_) rfl ?_
    · go_simp
    · go_simp
    · go_simp
    · rw [HF.out]
      exact ⟨⟨none, 0, rfl, Nat.zero_le _, OwnS.nil _ _⟩, HBF.out _ _ _⟩
end Go.Proofs.YtmhkalalcmkpbaaGreat
