/-
  FactCheck CmpS FacP
-/
import Derived.Test.YtmhkalalcmkpbaaGreatZChunkRR
import Derived.Test.YtmhkalalcmkpbaaGreatZDotCmp
import Derived.Test.YtmhkalalcmkpbaaGreatZDotRSort
import Derived.Test.YtmhkalalcmkpbaaGreatZOrd
import Derived.Test.YtmhkalalcmkpbaaGreatZStampW
namespace Go.Proofs.YtmhkalalcmkpbaaGreat
open Go.RowKit
set_option linter.unusedVariables false
set_option linter.unusedSimpArgs false

/-- A fact: its dot, stamp, kind, name and value. -/
abbrev FactT := (Int × Int) × (Int × Int × Int) × Int × ByteArray × ByteArray
abbrev factv (f : FactT) : Value := .agg #[.int .i64 f.1.1, .int .i64 f.1.2, .int .i64 f.2.1.1, .int .i64 f.2.1.2.1, .int .i64 f.2.1.2.2, .int .i64 f.2.2.1, .string f.2.2.2.1, .string f.2.2.2.2]
def nameOk (s : ByteArray) : Bool := decide (s.size ≠ 0 ∧ s.size ≤ 64)
def valE (k : Int) (v : ByteArray) : Int :=
  if k = 1 then (if 16384 < v.size then 3 else (readM v).2) else if k = 2 then (if 256 < v.size then 3 else 0) else if k = 3 then (if nameOk v = true then 0 else 14) else if k = 4 then (if v.size ≠ 8 then 5 else 0) else 0
def chkF (f : FactT) : Int :=
  if chk f.1 ≠ 0 then chk f.1 else if chkS f.2.1 ≠ 0 then chkS f.2.1 else if f.1.1 ≠ f.2.1.2.2 then 5 else if f.2.2.1 < 1 ∨ 4 < f.2.2.1 then 1 else if nameOk f.2.2.2.1 = false then 14 else valE f.2.2.1 f.2.2.2.2

set_option maxRecDepth 100000 in
theorem named_c (s : ByteArray) (hs : s.size ≤ 9223372036854775807) (w : World) : Calls Tryz.prog 28 #[.string s] w fun e w' => e = .returned (.bool (nameOk s)) ∧ w = w' := by
  have hse := str_empty_iff s
  by_cases h0 : s.size = 0
  · have hn : nameOk s = false := decide_eq_false (by omega)
    rw [hn]; clear hn
    rw [decide_eq_true h0] at hse
    have hse2 : s.toList = [] := by simpa using hse
    go_enter Tryz.func28, Tryz.ntmps28
    go_wp2
    go_ret
    exact ⟨rfl, rfl⟩
  · rw [decide_eq_false h0] at hse
    have hse2 : ¬ s.toList = [] := fun h => by rw [h] at hse; cases hse
    by_cases h1 : s.size ≤ 64
    · have hn : nameOk s = true := decide_eq_true ⟨h0, h1⟩
      rw [hn]; clear hn
      have hd : decide ((s.size : Int) ≤ 64) = true := decide_eq_true (by omega)
      go_enter Tryz.func28, Tryz.ntmps28
      go_wp2
      go_ret
      exact ⟨rfl, rfl⟩
    · have hn : nameOk s = false := decide_eq_false (by omega)
      rw [hn]; clear hn
      have hd : decide ((s.size : Int) ≤ 64) = false := decide_eq_false (by omega)
      go_enter Tryz.func28, Tryz.ntmps28
      go_wp2
      go_ret
      exact ⟨rfl, rfl⟩

set_option maxHeartbeats 2000000 in
set_option maxRecDepth 100000 in
theorem value_c (f : FactT) (hv : f.2.2.2.2.size < 1000000000) (w : World) : Calls Tryz.prog 29 #[factv f] w fun e w' => e = .returned (.int .i64 (valE f.2.2.1 f.2.2.2.2)) ∧ Below w.heap.size w w' := by
  obtain ⟨⟨d1, d2⟩, ⟨t, c, r⟩, k, n, v⟩ := f
  simp only [factv] at hv ⊢
  have HBX : Hid (∀ X : World, Below (w.alloc (.cells #[.int .i64 d1, .int .i64 d2, .int .i64 t, .int .i64 c, .int .i64 r, .int .i64 k, .string n, .string v] 36)).heap.size (w.alloc (.cells #[.int .i64 d1, .int .i64 d2, .int .i64 t, .int .i64 c, .int .i64 r, .int .i64 k, .string n, .string v] 36)) X → Below w.heap.size w X) := fun X hX => ((Below.refl w.heap.size w).alloc (Nat.le_refl _) _).trans (hX.mono (by simp))
  by_cases hk1 : k = 1
  · subst hk1
    by_cases h1 : 16384 < v.size
    · have hd : decide ((v.size : Int) > 16384) = true := decide_eq_true (by omega)
      have hc : valE 1 v = 3 := by unfold valE; rw [if_pos rfl, if_pos h1]
      rw [hc]; clear hc
      go_enter Tryz.func29, Tryz.ntmps29
      go_wp2
      go_ret
      exact ⟨rfl, (Below.refl _ _).alloc (Nat.le_refl _) _⟩
    · have hd : decide ((v.size : Int) > 16384) = false := decide_eq_false (by omega)
      have hc : valE 1 v = (readM v).2 := by unfold valE; rw [if_pos rfl, if_neg h1]
      rw [hc]; clear hc
      have hm := fun W => mread_c v hv W
      generalize readM v = q at *
      obtain ⟨⟨q1, q2, q3⟩, q4⟩ := q
      simp only [RetM] at hm
      go_enter Tryz.func29, Tryz.ntmps29
      go_wp2_with fail
      refine (hm _).mono ?_
      rintro e w5 ⟨⟨A, c2, rfl, _, _⟩, hb5⟩
      go_wp2_with fail
      go_ret
      exact ⟨rfl, (HBX.out _ hb5).alloc (HBX.out _ hb5).size _⟩
  · have hb1 : (k == 1) = false := by simpa using hk1
    by_cases hk2 : k = 2
    · subst hk2
      by_cases h1 : 256 < v.size
      · have hd : decide ((v.size : Int) > 256) = true := decide_eq_true (by omega)
        have hc : valE 2 v = 3 := by unfold valE; rw [if_neg (by decide), if_pos rfl, if_pos h1]
        rw [hc]; clear hc
        go_enter Tryz.func29, Tryz.ntmps29
        go_wp2
        go_ret
        exact ⟨rfl, (Below.refl _ _).alloc (Nat.le_refl _) _⟩
      · have hd : decide ((v.size : Int) > 256) = false := decide_eq_false (by omega)
        have hc : valE 2 v = 0 := by unfold valE; rw [if_neg (by decide), if_pos rfl, if_neg h1]
        rw [hc]; clear hc
        go_enter Tryz.func29, Tryz.ntmps29
        go_wp2
        go_ret
        exact ⟨rfl, (Below.refl _ _).alloc (Nat.le_refl _) _⟩
    · have hb2 : (k == 2) = false := by simpa using hk2
      by_cases hk3 : k = 3
      · subst hk3
        have hn := fun W => named_c v (by omega) W
        have hc : valE 3 v = if nameOk v = true then 0 else 14 := by unfold valE; rw [if_neg (by decide), if_neg (by decide), if_pos rfl]
        rw [hc]; clear hc
        generalize nameOk v = b at *
        cases b with
        | true =>
          go_enter Tryz.func29, Tryz.ntmps29
          go_wp2_with fail
          refine (hn _).mono ?_
          rintro e w5 ⟨rfl, rfl⟩
          go_wp2_with fail
          go_ret
          exact ⟨rfl, (Below.refl _ _).alloc (Nat.le_refl _) _⟩
        | false =>
          go_enter Tryz.func29, Tryz.ntmps29
          go_wp2_with fail
          refine (hn _).mono ?_
          rintro e w5 ⟨rfl, rfl⟩
          go_wp2_with fail
          go_ret
          exact ⟨rfl, (Below.refl _ _).alloc (Nat.le_refl _) _⟩
      · have hb3 : (k == 3) = false := by simpa using hk3
        by_cases hk4 : k = 4
        · subst hk4
          by_cases h1 : v.size = 8
          · have hd : ((v.size : Int) != 8) = false := by rw [bne_eq_false_iff_eq]; omega
            have hc : valE 4 v = 0 := by unfold valE; rw [if_neg (by decide), if_neg (by decide), if_neg (by decide), if_pos rfl, if_neg (by simpa using h1)]
            rw [hc]; clear hc
            go_enter Tryz.func29, Tryz.ntmps29
            go_wp2
            go_ret
            exact ⟨rfl, (Below.refl _ _).alloc (Nat.le_refl _) _⟩
          · have hd : ((v.size : Int) != 8) = true := by rw [bne_iff_ne]; omega
            have hc : valE 4 v = 5 := by unfold valE; rw [if_neg (by decide), if_neg (by decide), if_neg (by decide), if_pos rfl, if_pos h1]
            rw [hc]; clear hc
            go_enter Tryz.func29, Tryz.ntmps29
            go_wp2
            go_ret
            exact ⟨rfl, (Below.refl _ _).alloc (Nat.le_refl _) _⟩
        · have hb4 : (k == 4) = false := by simpa using hk4
          have hc : valE k v = 0 := by unfold valE; rw [if_neg hk1, if_neg hk2, if_neg hk3, if_neg hk4]
          rw [hc]; clear hc
          go_enter Tryz.func29, Tryz.ntmps29
          go_wp2
          go_ret
          exact ⟨rfl, (Below.refl _ _).alloc (Nat.le_refl _) _⟩

set_option maxHeartbeats 4000000 in
set_option maxRecDepth 100000 in
theorem fcheck_c (f : FactT) (hn : f.2.2.2.1.size ≤ 9223372036854775807) (hv : f.2.2.2.2.size < 1000000000) (w : World) : Calls Tryz.prog 8 #[factv f] w fun e w' => e = .returned (.int .i64 (chkF f)) ∧ Below w.heap.size w w' := by
  obtain ⟨⟨d1, d2⟩, ⟨t, c, r⟩, k, n, v⟩ := f
  simp only at hn hv
  have hcd := fun W => check_c (d1, d2) W
  have hcs := fun W => schk_c (t, c, r) W
  have hvl := fun W => value_c ((d1, d2), (t, c, r), k, n, v) hv W
  simp only [factv] at hvl
  have HCF : Hid (chkF ((d1, d2), (t, c, r), k, n, v) = if chk (d1, d2) ≠ 0 then chk (d1, d2) else if chkS (t, c, r) ≠ 0 then chkS (t, c, r) else if d1 ≠ r then 5 else if k < 1 ∨ 4 < k then 1 else if nameOk n = false then 14 else valE k v) := rfl
  generalize chkF ((d1, d2), (t, c, r), k, n, v) = cf at *
  simp only [factv, stv, dotv] at hcd hcs ⊢
  generalize chk (d1, d2) = e1 at *
  generalize chkS (t, c, r) = e2 at *
  have HG : Hid (∀ X, Below (w.alloc (.cells #[.int .i64 d1, .int .i64 d2, .int .i64 t, .int .i64 c, .int .i64 r, .int .i64 k, .string n, .string v] 36)).heap.size (w.alloc (.cells #[.int .i64 d1, .int .i64 d2, .int .i64 t, .int .i64 c, .int .i64 r, .int .i64 k, .string n, .string v] 36)) X → X.cell? ⟨w.heap.size, 0, none⟩ = some (.int .i64 d1) ∧ X.cell? ⟨w.heap.size, 1, none⟩ = some (.int .i64 d2) ∧ X.cell? ⟨w.heap.size, 2, none⟩ = some (.int .i64 t) ∧ X.cell? ⟨w.heap.size, 3, none⟩ = some (.int .i64 c) ∧ X.cell? ⟨w.heap.size, 4, none⟩ = some (.int .i64 r) ∧ X.cell? ⟨w.heap.size, 5, none⟩ = some (.int .i64 k) ∧ X.cell? ⟨w.heap.size, 6, none⟩ = some (.string n) ∧ X.cell? ⟨w.heap.size, 7, none⟩ = some (.string v)) := fun X hX =>
    ⟨keepc hX (by simp), keepc hX (by simp), keepc hX (by simp), keepc hX (by simp), keepc hX (by simp), keepc hX (by simp), keepc hX (by simp), keepc hX (by simp)⟩
  have HBX : Hid (∀ X : World, Below (w.alloc (.cells #[.int .i64 d1, .int .i64 d2, .int .i64 t, .int .i64 c, .int .i64 r, .int .i64 k, .string n, .string v] 36)).heap.size (w.alloc (.cells #[.int .i64 d1, .int .i64 d2, .int .i64 t, .int .i64 c, .int .i64 r, .int .i64 k, .string n, .string v] 36)) X → Below w.heap.size w X) := fun X hX => ((Below.refl w.heap.size w).alloc (Nat.le_refl _) _).trans (hX.mono (by simp))
  go_enter Tryz.func8, Tryz.ntmps8
  go_wp2_with fail
  generalize hW : w.alloc (.cells #[.int .i64 d1, .int .i64 d2, .int .i64 t, .int .i64 c, .int .i64 r, .int .i64 k, .string n, .string v] 36) = w1 at *
  clear hW
  refine (hcd _).mono ?_
  rintro e w2 ⟨rfl, hb⟩
  have HB_w2 : Hid (Below w1.heap.size w1 w2) := hb
  clear hb
  obtain ⟨g0, g1, g2, g3, g4, g5, g6, g7⟩ := HG.out w2 HB_w2.out
  by_cases h1 : e1 = 0
  · subst h1
    go_wp2_with fail
    refine (hcs _).mono ?_
    rintro e w3 ⟨rfl, hb⟩
    have HB_w3 : Hid (Below w1.heap.size w1 w3) := HB_w2.out.trans (hb.mono HB_w2.out.size)
    clear hb
    clear g0 g1 g2 g3 g4 g5 g6 g7
    obtain ⟨g0, g1, g2, g3, g4, g5, g6, g7⟩ := HG.out w3 HB_w3.out
    by_cases h2 : e2 = 0
    · subst h2
      by_cases h3 : d1 = r
      · subst h3
        have d3 : (d1 != d1) = false := by simp
        by_cases h4 : k < 1
        · have d4 : decide (k < 1) = true := decide_eq_true h4
          have HF : Hid (cf = 1) := by show _ = _; rw [HCF.out, if_neg (by simp), if_neg (by simp), if_neg (by simp), if_pos (.inl h4)]
          clear HCF
          go_wp2_with fail
          go_ret
          exact ⟨ret_int HF.out.symm, HBX.out _ HB_w3.out⟩
        · have d4 : decide (k < 1) = false := decide_eq_false h4
          by_cases h5 : 4 < k
          · have d5 : decide (k > 4) = true := decide_eq_true h5
            have HF : Hid (cf = 1) := by show _ = _; rw [HCF.out, if_neg (by simp), if_neg (by simp), if_neg (by simp), if_pos (.inr h5)]
            clear HCF
            go_wp2_with fail
            go_ret
            exact ⟨ret_int HF.out.symm, HBX.out _ HB_w3.out⟩
          · have d5 : decide (k > 4) = false := decide_eq_false h5
            have hnm := fun W => named_c n hn W
            have HNM : Hid (nameOk n = nameOk n) := rfl
            generalize hnb : nameOk n = b at hnm
            have HNB := Lib.hid hnb
            clear hnb
            cases b with
            | false =>
              go_wp2_with fail
              refine (hnm _).mono ?_
              rintro e w5 ⟨rfl, rfl⟩
              have HF : Hid (cf = 14) := by show _ = _; rw [HCF.out, if_neg (by simp), if_neg (by simp), if_neg (by simp), if_neg (by omega), if_pos HNB.out]
              clear HCF
              go_wp2_with fail
              go_ret
              exact ⟨ret_int HF.out.symm, HBX.out _ HB_w3.out⟩
            | true =>
              go_wp2_with fail
              refine (hnm _).mono ?_
              rintro e w5 ⟨rfl, rfl⟩
              go_wp2_with fail
              refine (hvl _).mono ?_
              rintro e w6 ⟨rfl, hb6⟩
              have HB_w6 : Hid (Below w1.heap.size w1 w6) := HB_w3.out.trans (hb6.mono HB_w3.out.size)
              clear hb6
              have HF : Hid (cf = valE k v) := by show _ = _; rw [HCF.out, if_neg (by simp), if_neg (by simp), if_neg (by simp), if_neg (by omega), if_neg (by rw [HNB.out]; simp)]
              clear HCF
              go_wp2_with fail
              go_ret
              exact ⟨ret_int HF.out.symm, HBX.out _ HB_w6.out⟩
      · have d3 : (d1 != r) = true := by simpa using h3
        have HF : Hid (cf = 5) := by show _ = _; rw [HCF.out, if_neg (by simp), if_neg (by simp), if_pos h3]
        clear HCF
        go_wp2_with fail
        go_ret
        exact ⟨ret_int HF.out.symm, HBX.out _ HB_w3.out⟩
    · have d2 : (e2 != 0) = true := by simpa using h2
      have HF : Hid (cf = e2) := by show _ = _; rw [HCF.out, if_neg (by simp), if_pos h2]
      clear HCF
      go_wp2_with fail
      go_ret
      exact ⟨ret_int HF.out.symm, HBX.out _ HB_w3.out⟩
  · have d1' : (e1 != 0) = true := by simpa using h1
    have HF : Hid (cf = e1) := by show _ = _; rw [HCF.out, if_pos h1]
    clear HCF
    go_wp2_with fail
    go_ret
    exact ⟨ret_int HF.out.symm, HBX.out _ HB_w2.out⟩

set_option maxHeartbeats 4000000 in
set_option maxRecDepth 100000 in
theorem rfcheck_c (f : FactT) (hn : f.2.2.2.1.size ≤ 9223372036854775807) (hv : f.2.2.2.2.size < 1000000000) (w : World) : Calls Tryz.prog 9 #[factv f] w fun e w' => e = .returned (.int .i64 (chkF f)) ∧ Below w.heap.size w w' := by
  obtain ⟨⟨d1, d2⟩, ⟨t, c, r⟩, k, n, v⟩ := f
  simp only at hn hv
  have hcd := fun W => rcheck_c (d1, d2) W
  have hcs := fun W => rschk_c (t, c, r) W
  have HCF : Hid (chkF ((d1, d2), (t, c, r), k, n, v) = if chk (d1, d2) ≠ 0 then chk (d1, d2) else if chkS (t, c, r) ≠ 0 then chkS (t, c, r) else if d1 ≠ r then 5 else if k < 1 ∨ 4 < k then 1 else if nameOk n = false then 14 else valE k v) := rfl
  generalize chkF ((d1, d2), (t, c, r), k, n, v) = cf at *
  simp only [factv, stv, dotv] at hcd hcs ⊢
  generalize chk (d1, d2) = e1 at *
  generalize chkS (t, c, r) = e2 at *
  have HG : Hid (∀ X, Below (w.alloc (.cells #[.int .i64 d1, .int .i64 d2, .int .i64 t, .int .i64 c, .int .i64 r, .int .i64 k, .string n, .string v] 36)).heap.size (w.alloc (.cells #[.int .i64 d1, .int .i64 d2, .int .i64 t, .int .i64 c, .int .i64 r, .int .i64 k, .string n, .string v] 36)) X → X.cell? ⟨w.heap.size, 0, none⟩ = some (.int .i64 d1) ∧ X.cell? ⟨w.heap.size, 1, none⟩ = some (.int .i64 d2) ∧ X.cell? ⟨w.heap.size, 2, none⟩ = some (.int .i64 t) ∧ X.cell? ⟨w.heap.size, 3, none⟩ = some (.int .i64 c) ∧ X.cell? ⟨w.heap.size, 4, none⟩ = some (.int .i64 r) ∧ X.cell? ⟨w.heap.size, 5, none⟩ = some (.int .i64 k) ∧ X.cell? ⟨w.heap.size, 6, none⟩ = some (.string n) ∧ X.cell? ⟨w.heap.size, 7, none⟩ = some (.string v)) := fun X hX =>
    ⟨keepc hX (by simp), keepc hX (by simp), keepc hX (by simp), keepc hX (by simp), keepc hX (by simp), keepc hX (by simp), keepc hX (by simp), keepc hX (by simp)⟩
  have HBX : Hid (∀ X : World, Below (w.alloc (.cells #[.int .i64 d1, .int .i64 d2, .int .i64 t, .int .i64 c, .int .i64 r, .int .i64 k, .string n, .string v] 36)).heap.size (w.alloc (.cells #[.int .i64 d1, .int .i64 d2, .int .i64 t, .int .i64 c, .int .i64 r, .int .i64 k, .string n, .string v] 36)) X → Below w.heap.size w X) := fun X hX => ((Below.refl w.heap.size w).alloc (Nat.le_refl _) _).trans (hX.mono (by simp))
  go_enter Tryz.func9, Tryz.ntmps9
  go_wp2_with fail
  generalize hW : w.alloc (.cells #[.int .i64 d1, .int .i64 d2, .int .i64 t, .int .i64 c, .int .i64 r, .int .i64 k, .string n, .string v] 36) = w1 at *
  clear hW
  refine (hcd _).mono ?_
  rintro e w2 ⟨rfl, hb⟩
  have HB_w2 : Hid (Below w1.heap.size w1 w2) := hb
  clear hb
  obtain ⟨g0, g1, g2, g3, g4, g5, g6, g7⟩ := HG.out w2 HB_w2.out
  by_cases h1 : e1 = 0
  · subst h1
    go_wp2_with fail
    refine (hcs _).mono ?_
    rintro e w3 ⟨rfl, hb⟩
    have HB_w3 : Hid (Below w1.heap.size w1 w3) := HB_w2.out.trans (hb.mono HB_w2.out.size)
    clear hb
    clear g0 g1 g2 g3 g4 g5 g6 g7
    obtain ⟨g0, g1, g2, g3, g4, g5, g6, g7⟩ := HG.out w3 HB_w3.out
    by_cases h2 : e2 = 0
    · subst h2
      by_cases h3 : d1 = r
      · subst h3
        have d3 : (d1 != d1) = false := by simp
        by_cases h4 : k < 1
        · have d4 : decide (k < 1) = true := decide_eq_true h4
          have HF : Hid (cf = 1) := by show _ = _; rw [HCF.out, if_neg (by simp), if_neg (by simp), if_neg (by simp), if_pos (.inl h4)]
          clear HCF
          go_wp2_with fail
          go_ret
          exact ⟨ret_int HF.out.symm, HBX.out _ HB_w3.out⟩
        · have d4 : decide (k < 1) = false := decide_eq_false h4
          by_cases h5 : 4 < k
          · have d5 : decide (k > 4) = true := decide_eq_true h5
            have HF : Hid (cf = 1) := by show _ = _; rw [HCF.out, if_neg (by simp), if_neg (by simp), if_neg (by simp), if_pos (.inr h5)]
            clear HCF
            go_wp2_with fail
            go_ret
            exact ⟨ret_int HF.out.symm, HBX.out _ HB_w3.out⟩
          · have d5 : decide (k > 4) = false := decide_eq_false h5
            by_cases h6 : n.size < 1
            · have d6 : decide ((n.size : Int) < 1) = true := decide_eq_true (by omega)
              have HF : Hid (cf = 14) := by show _ = _; rw [HCF.out, if_neg (by simp), if_neg (by simp), if_neg (by simp), if_neg (by omega), if_pos (show nameOk n = false from decide_eq_false (by omega))]
              clear HCF
              go_wp2_with fail
              go_ret
              exact ⟨ret_int HF.out.symm, HBX.out _ HB_w3.out⟩
            · have d6 : decide ((n.size : Int) < 1) = false := decide_eq_false (by omega)
              by_cases h7 : 64 < n.size
              · have d7 : decide ((n.size : Int) > 64) = true := decide_eq_true (by omega)
                have HF : Hid (cf = 14) := by show _ = _; rw [HCF.out, if_neg (by simp), if_neg (by simp), if_neg (by simp), if_neg (by omega), if_pos (show nameOk n = false from decide_eq_false (by omega))]
                clear HCF
                go_wp2_with fail
                go_ret
                exact ⟨ret_int HF.out.symm, HBX.out _ HB_w3.out⟩
              · have d7 : decide ((n.size : Int) > 64) = false := decide_eq_false (by omega)
                have hk : k = 1 ∨ k = 2 ∨ k = 3 ∨ k = 4 := by omega
                rcases hk with rfl | rfl | rfl | rfl
                · by_cases h8 : 16384 < v.size
                  · have d8 : decide ((v.size : Int) > 16384) = true := decide_eq_true (by omega)
                    have HF : Hid (cf = 3) := by show _ = _; rw [HCF.out, if_neg (by simp), if_neg (by simp), if_neg (by simp), if_neg (by omega), if_neg (by unfold nameOk; rw [decide_eq_true (show n.size ≠ 0 ∧ n.size ≤ 64 by omega)]; simp)]; unfold valE; rw [if_pos rfl, if_pos h8]
                    clear HCF
                    go_wp2_with fail
                    go_ret
                    exact ⟨ret_int HF.out.symm, HBX.out _ HB_w3.out⟩
                  · have d8 : decide ((v.size : Int) > 16384) = false := decide_eq_false (by omega)
                    have hm := fun W => rmread_c v hv W
                    have HVE : Hid (valE 1 v = (readM v).2) := by show _ = _; unfold valE; rw [if_pos rfl, if_neg h8]
                    generalize readM v = q at *
                    obtain ⟨⟨q1, q2, q3⟩, q4⟩ := q
                    simp only [RetM] at hm HVE
                    go_wp2_with fail
                    refine (hm _).mono ?_
                    rintro e w5 ⟨⟨A, c2, rfl, _, _⟩, hb5⟩
                    have HB_w5 : Hid (Below w1.heap.size w1 (w5.alloc (.cells #[.int .i64 q1, .int .i64 q2, .slice A q3.length c2] 69))) := (HB_w3.out.trans (hb5.mono HB_w3.out.size)).alloc (Nat.le_trans HB_w3.out.size hb5.size) _
                    have HF : Hid (cf = q4) := by show _ = _; rw [HCF.out, if_neg (by simp), if_neg (by simp), if_neg (by simp), if_neg (by omega), if_neg (by unfold nameOk; rw [decide_eq_true (show n.size ≠ 0 ∧ n.size ≤ 64 by omega)]; simp), HVE.out]
                    clear HCF
                    go_wp2_with fail
                    go_ret
                    exact ⟨ret_int HF.out.symm, HBX.out _ HB_w5.out⟩
                · by_cases h8 : 256 < v.size
                  · have d8 : decide ((v.size : Int) > 256) = true := decide_eq_true (by omega)
                    have HF : Hid (cf = 3) := by show _ = _; rw [HCF.out, if_neg (by simp), if_neg (by simp), if_neg (by simp), if_neg (by omega), if_neg (by unfold nameOk; rw [decide_eq_true (show n.size ≠ 0 ∧ n.size ≤ 64 by omega)]; simp)]; unfold valE; rw [if_neg (by decide), if_pos rfl, if_pos h8]
                    clear HCF
                    go_wp2_with fail
                    go_ret
                    exact ⟨ret_int HF.out.symm, HBX.out _ HB_w3.out⟩
                  · have d8 : decide ((v.size : Int) > 256) = false := decide_eq_false (by omega)
                    have HF : Hid (cf = 0) := by show _ = _; rw [HCF.out, if_neg (by simp), if_neg (by simp), if_neg (by simp), if_neg (by omega), if_neg (by unfold nameOk; rw [decide_eq_true (show n.size ≠ 0 ∧ n.size ≤ 64 by omega)]; simp)]; unfold valE; rw [if_neg (by decide), if_pos rfl, if_neg h8]
                    clear HCF
                    go_wp2_with fail
                    go_ret
                    exact ⟨ret_int HF.out.symm, HBX.out _ HB_w3.out⟩
                · by_cases h8 : v.size < 1
                  · have d8 : decide ((v.size : Int) < 1) = true := decide_eq_true (by omega)
                    have HF : Hid (cf = 14) := by show _ = _; rw [HCF.out, if_neg (by simp), if_neg (by simp), if_neg (by simp), if_neg (by omega), if_neg (by unfold nameOk; rw [decide_eq_true (show n.size ≠ 0 ∧ n.size ≤ 64 by omega)]; simp)]; unfold valE; rw [if_neg (by decide), if_neg (by decide), if_pos rfl, if_neg (by unfold nameOk; rw [decide_eq_false (by omega)]; simp)]
                    clear HCF
                    go_wp2_with fail
                    go_ret
                    exact ⟨ret_int HF.out.symm, HBX.out _ HB_w3.out⟩
                  · have d8 : decide ((v.size : Int) < 1) = false := decide_eq_false (by omega)
                    by_cases h9 : 64 < v.size
                    · have d9 : decide ((v.size : Int) > 64) = true := decide_eq_true (by omega)
                      have HF : Hid (cf = 14) := by show _ = _; rw [HCF.out, if_neg (by simp), if_neg (by simp), if_neg (by simp), if_neg (by omega), if_neg (by unfold nameOk; rw [decide_eq_true (show n.size ≠ 0 ∧ n.size ≤ 64 by omega)]; simp)]; unfold valE; rw [if_neg (by decide), if_neg (by decide), if_pos rfl, if_neg (by unfold nameOk; rw [decide_eq_false (by omega)]; simp)]
                      clear HCF
                      go_wp2_with fail
                      go_ret
                      exact ⟨ret_int HF.out.symm, HBX.out _ HB_w3.out⟩
                    · have d9 : decide ((v.size : Int) > 64) = false := decide_eq_false (by omega)
                      have HF : Hid (cf = 0) := by show _ = _; rw [HCF.out, if_neg (by simp), if_neg (by simp), if_neg (by simp), if_neg (by omega), if_neg (by unfold nameOk; rw [decide_eq_true (show n.size ≠ 0 ∧ n.size ≤ 64 by omega)]; simp)]; unfold valE; rw [if_neg (by decide), if_neg (by decide), if_pos rfl, if_pos (show nameOk v = true from decide_eq_true (by omega))]
                      clear HCF
                      go_wp2_with fail
                      go_ret
                      exact ⟨ret_int HF.out.symm, HBX.out _ HB_w3.out⟩
                · by_cases h8 : v.size = 8
                  · have d8 : ((v.size : Int) != 8) = false := by rw [bne_eq_false_iff_eq]; omega
                    have HF : Hid (cf = 0) := by show _ = _; rw [HCF.out, if_neg (by simp), if_neg (by simp), if_neg (by simp), if_neg (by omega), if_neg (by unfold nameOk; rw [decide_eq_true (show n.size ≠ 0 ∧ n.size ≤ 64 by omega)]; simp)]; unfold valE; rw [if_neg (by decide), if_neg (by decide), if_neg (by decide), if_pos rfl, if_neg (by simpa using h8)]
                    clear HCF
                    go_wp2_with fail
                    go_ret
                    exact ⟨ret_int HF.out.symm, HBX.out _ HB_w3.out⟩
                  · have d8 : ((v.size : Int) != 8) = true := by rw [bne_iff_ne]; omega
                    have HF : Hid (cf = 5) := by show _ = _; rw [HCF.out, if_neg (by simp), if_neg (by simp), if_neg (by simp), if_neg (by omega), if_neg (by unfold nameOk; rw [decide_eq_true (show n.size ≠ 0 ∧ n.size ≤ 64 by omega)]; simp)]; unfold valE; rw [if_neg (by decide), if_neg (by decide), if_neg (by decide), if_pos rfl, if_pos h8]
                    clear HCF
                    go_wp2_with fail
                    go_ret
                    exact ⟨ret_int HF.out.symm, HBX.out _ HB_w3.out⟩
      · have d3 : (d1 != r) = true := by simpa using h3
        have HF : Hid (cf = 5) := by show _ = _; rw [HCF.out, if_neg (by simp), if_neg (by simp), if_pos h3]
        clear HCF
        go_wp2_with fail
        go_ret
        exact ⟨ret_int HF.out.symm, HBX.out _ HB_w3.out⟩
    · have d2 : (e2 != 0) = true := by simpa using h2
      have HF : Hid (cf = e2) := by show _ = _; rw [HCF.out, if_neg (by simp), if_pos h2]
      clear HCF
      go_wp2_with fail
      go_ret
      exact ⟨ret_int HF.out.symm, HBX.out _ HB_w3.out⟩
  · have d1' : (e1 != 0) = true := by simpa using h1
    have HF : Hid (cf = e1) := by show _ = _; rw [HCF.out, if_pos h1]
    clear HCF
    go_wp2_with fail
    go_ret
    exact ⟨ret_int HF.out.symm, HBX.out _ HB_w2.out⟩
end Go.Proofs.YtmhkalalcmkpbaaGreat

namespace Go.Proofs.YtmhkalalcmkpbaaGreat
open Go.RowKit
set_option linter.unusedVariables false
set_option linter.unusedSimpArgs false

/-- Which of two names comes first. -/
def ltStr (a b : ByteArray) : Bool := Op.bytesLess a.toList b.toList
def cmpStr (a b : ByteArray) : Int := if ltStr a b = true then -1 else if ltStr b a = true then 1 else 0

theorem binOp_string_gtr (t : TypeId) (a b : ByteArray) : binOp .gtr t (.string a) (.string b) = pure (.bool (!(Op.bytesLess a.toList b.toList) && !(a.toList == b.toList))) := by
  simp [binOp, Op.stringOp]

theorem bytesLess_irrefl : ∀ l, Op.bytesLess l l = false
  | [] => rfl
  | a :: x => by simp [Op.bytesLess, bytesLess_irrefl x]
theorem bytesLess_trans : ∀ a b c, Op.bytesLess a b = true → Op.bytesLess b c = true → Op.bytesLess a c = true
  | _, _, [] => by intro _ h; simp [Op.bytesLess] at h
  | _, [], _ :: _ => by intro h; simp [Op.bytesLess] at h
  | [], _ :: _, _ :: _ => by intro _ _; simp [Op.bytesLess]
  | a :: x, b :: y, c :: z => by
    intro h1 h2
    simp only [Op.bytesLess, Bool.or_eq_true, Bool.and_eq_true, decide_eq_true_eq, beq_iff_eq] at h1 h2 ⊢
    rcases h1 with h1 | ⟨rfl, h1⟩
    · rcases h2 with h2 | ⟨rfl, h2⟩
      · exact .inl (UInt8.lt_trans h1 h2)
      · exact .inl h1
    · rcases h2 with h2 | ⟨rfl, h2⟩
      · exact .inl h2
      · exact .inr ⟨rfl, bytesLess_trans _ _ _ h1 h2⟩
theorem bytesLess_total : ∀ a b, Op.bytesLess a b = false → Op.bytesLess b a = false → a = b
  | [], [] => fun _ _ => rfl
  | _ :: _, [] => by intro _ h; simp [Op.bytesLess] at h
  | [], _ :: _ => by intro h; simp [Op.bytesLess] at h
  | a :: x, b :: y => by
    intro h1 h2
    simp only [Op.bytesLess, Bool.or_eq_false_iff, decide_eq_false_iff_not, Bool.and_eq_false_iff] at h1 h2
    have hab : a = b := UInt8.le_antisymm (UInt8.not_lt.1 h2.1) (UInt8.not_lt.1 h1.1)
    subst hab
    simp at h1 h2
    rw [bytesLess_total x y h1 h2]

theorem toList_inj {a b : ByteArray} (h : a.toList = b.toList) : a = b := by
  rw [ByteArray.toList_eq, ByteArray.toList_eq] at h
  cases a; cases b
  simp only [ByteArray.mk.injEq]
  exact Array.toList_inj.1 h

theorem stoStr : STO ltStr where
  irrefl a := bytesLess_irrefl _
  trans a b c := bytesLess_trans _ _ _
  total a b h1 h2 := toList_inj (bytesLess_total _ _ h1 h2)

theorem gtrStr (a b : ByteArray) : (!(Op.bytesLess a.toList b.toList) && !(a.toList == b.toList)) = ltStr b a := by
  unfold ltStr
  cases h : Op.bytesLess a.toList b.toList with
  | true =>
    cases h2 : Op.bytesLess b.toList a.toList with
    | false => rfl
    | true => have := bytesLess_trans _ _ _ h h2; rw [bytesLess_irrefl] at this; cases this
  | false =>
    cases h2 : Op.bytesLess b.toList a.toList with
    | false => have := bytesLess_total _ _ h h2; simp [this]
    | true =>
      have : ¬ a.toList = b.toList := fun e => by rw [e, bytesLess_irrefl] at h2; cases h2
      simpa using this

theorem snan_c (x : ByteArray) (w : World) : Calls Tryz.prog 71 #[.string x] w fun e w' => e = .returned (.bool false) ∧ w = w' := by
  go_enter Tryz.func71, Tryz.ntmps71
  go_wp2
  go_ret
  exact ⟨by simp, rfl⟩

set_option maxRecDepth 100000 in
theorem scmp_c (x y : ByteArray) (w : World) : Calls Tryz.prog 54 #[.string x, .string y] w fun e w' => e = .returned (.int .i64 (cmpStr x y)) ∧ w = w' := by
  have hg := binOp_string_gtr
  have hr : cmpStr x y = if ltStr x y = true then -1 else if ltStr y x = true then 1 else 0 := rfl
  rw [hr]; clear hr
  have h1 : ∀ t, binOp .lss t (.string x) (.string y) = pure (.bool (ltStr x y)) := fun t => binOp_string_lss t x y
  have h2 : ∀ t, binOp .gtr t (.string x) (.string y) = pure (.bool (ltStr y x)) := fun t => by rw [binOp_string_gtr, gtrStr]
  clear hg
  generalize ltStr x y = p at *
  generalize ltStr y x = q at *
  cases p <;> cases q <;>
  · go_enter Tryz.func54, Tryz.ntmps54
    go_wp2_with (go_at_call 71; refine (snan_c _ _).mono ?_; rintro e w' ⟨rfl, rfl⟩)
    go_ret
    exact ⟨rfl, rfl⟩

end Go.Proofs.YtmhkalalcmkpbaaGreat

namespace Go.Proofs.YtmhkalalcmkpbaaGreat
open Go.RowKit
set_option linter.unusedVariables false
set_option linter.unusedSimpArgs false

/-- What by answers of an order. -/
def byL (p q : Bool) : Int := if p = true then -1 else if q = true then 1 else 0
theorem cmpI_zero (a b : Int) : cmpI a b = 0 ↔ a = b := by
  unfold cmpI; split <;> (try split) <;> constructor <;> intro h <;> omega
theorem ltS_iff (a b : Int × Int × Int) : ltS a b = true ↔ a.1 < b.1 ∨ (a.1 = b.1 ∧ (a.2.1 < b.2.1 ∨ (a.2.1 = b.2.1 ∧ a.2.2 < b.2.2))) := by unfold ltS; simp
theorem stoS : STO ltS where
  irrefl a := by
    rw [Bool.eq_false_iff]; intro h; rw [ltS_iff] at h; omega
  trans a b c h1 h2 := by
    rw [ltS_iff] at *; omega
  total a b h1 h2 := by
    rw [Bool.eq_false_iff] at h1 h2
    rw [ne_eq, ltS_iff] at h1 h2
    obtain ⟨a1, a2, a3⟩ := a
    obtain ⟨b1, b2, b3⟩ := b
    simp only at h1 h2
    have e1 : a1 = b1 := by omega
    have e2 : a2 = b2 := by omega
    have e3 : a3 = b3 := by omega
    rw [e1, e2, e3]

/-- A comparison as Go's packages know it: below zero, zero, above. -/
structure Cmps {α : Type} (c : α → α → Int) : Prop where
  zero : ∀ a b, c a b = 0 ↔ a = b
  flip : ∀ a b, c a b < 0 ↔ 0 < c b a
  trans : ∀ a b d, c a b < 0 → c b d < 0 → c a d < 0

theorem Cmps.sto {α : Type} {c : α → α → Int} (h : Cmps c) : STO (fun a b => decide (c a b < 0)) where
  irrefl a := by
    have := (h.zero a a).2 rfl
    simp [this]
  trans a b d h1 h2 := by
    simp only [decide_eq_true_eq] at *
    exact h.trans a b d h1 h2
  total a b h1 h2 := by
    simp only [decide_eq_false_iff_not] at *
    have := h.flip b a
    exact (h.zero a b).1 (by omega)

theorem Cmps.lex {α β γ : Type} {c : α → α → Int} {d : β → β → Int} (hc : Cmps c) (hd : Cmps d) (f : γ → α) (g : γ → β)
    (hi : ∀ x y, f x = f y → g x = g y → x = y) : Cmps (fun x y => orI (c (f x) (f y)) (d (g x) (g y))) where
  zero x y := by
    have h1 := hc.zero (f x) (f y)
    have h2 := hd.zero (g x) (g y)
    unfold orI
    constructor
    · intro h
      split at h
      · rename_i h0; exact hi x y (h1.1 h0) (h2.1 h)
      · rename_i h0; exact absurd h h0
    · intro h
      subst h
      rw [if_pos (h1.2 rfl)]
      exact h2.2 rfl
  flip x y := by
    have h1 := hc.flip (f x) (f y)
    have h1' := hc.flip (f y) (f x)
    have h2 := hd.flip (g x) (g y)
    unfold orI
    split <;> split <;> first | exact h2 | omega
  trans x y z := by
    have a1 := hc.zero (f x) (f y)
    have a2 := hc.zero (f y) (f z)
    have a3 := hc.zero (f x) (f z)
    have b := hc.trans (f x) (f y) (f z)
    have e := hd.trans (g x) (g y) (g z)
    unfold orI
    intro h1 h2
    split at h1 <;> split at h2
    · rename_i p q
      rw [if_pos (a3.2 ((a1.1 p).trans (a2.1 q)))]
      exact e h1 h2
    · rename_i p q
      have := a1.1 p
      rw [← this] at h2 q
      rw [if_neg q]; exact h2
    · rename_i p q
      have := a2.1 q
      rw [this] at h1 p
      rw [if_neg p]; exact h1
    · have := b h1 h2
      rw [if_neg (by omega)]; exact this

theorem cmpsI : Cmps cmpI where
  zero := cmpI_zero
  flip a b := by unfold cmpI; split <;> split <;> (try split) <;> omega
  trans a b d := by unfold cmpI; intro h1 h2; (repeat' split at h1) <;> (repeat' split at h2) <;> (try omega) <;> (repeat' split) <;> omega

theorem cmps_of_sto {α : Type} {lt : α → α → Bool} (h : STO lt) : Cmps (fun a b => byL (lt a b) (lt b a)) where
  zero a b := by
    unfold byL
    constructor
    · intro e
      cases h1 : lt a b with
      | true => rw [h1] at e; simp at e
      | false =>
        cases h2 : lt b a with
        | true => rw [h1, h2] at e; simp at e
        | false => exact h.total a b h1 h2
    · intro e; subst e; simp [h.irrefl a]
  flip a b := by
    unfold byL
    cases h1 : lt a b with
    | true => simp [h.asymm h1]
    | false => cases h2 : lt b a <;> simp
  trans a b d h1 h2 := by
    have g : ∀ a b, byL (lt a b) (lt b a) < 0 → lt a b = true := fun a b e => by
      cases h1 : lt a b with
      | true => rfl
      | false => rw [h1] at e; unfold byL at e; cases h2 : lt b a <;> rw [h2] at e <;> simp at e
    have := h.trans a b d (g a b h1) (g b d h2)
    simp [byL, this]

def byD (a b : Int × Int) : Int := byL (ltD a b) (ltD b a)
def byW (a b : Int × Int × Int) : Int := byL (ltS a b) (ltS b a)
def ordF (x y : FactT) : Int := orI (cmpStr x.2.2.2.1 y.2.2.2.1) (orI (cmpI x.2.2.1 y.2.2.1) (orI (byD x.1 y.1) (orI (byW x.2.1 y.2.1) (cmpStr x.2.2.2.2 y.2.2.2.2))))
def ltF (x y : FactT) : Bool := decide (ordF x y < 0)

theorem cmpsS : Cmps cmpStr := cmps_of_sto stoStr
theorem cmpsF : Cmps ordF := by
  have h4 : Cmps (fun (x y : (Int × Int × Int) × ByteArray) => orI (byW x.1 y.1) (cmpStr x.2 y.2)) := (cmps_of_sto stoS).lex cmpsS Prod.fst Prod.snd (fun x y h1 h2 => Prod.ext h1 h2)
  have h3 : Cmps (fun (x y : (Int × Int) × (Int × Int × Int) × ByteArray) => orI (byD x.1 y.1) (orI (byW x.2.1 y.2.1) (cmpStr x.2.2 y.2.2))) := (cmps_of_sto stoD).lex h4 Prod.fst Prod.snd (fun x y h1 h2 => Prod.ext h1 h2)
  have h2 : Cmps (fun (x y : Int × (Int × Int) × (Int × Int × Int) × ByteArray) => orI (cmpI x.1 y.1) (orI (byD x.2.1 y.2.1) (orI (byW x.2.2.1 y.2.2.1) (cmpStr x.2.2.2 y.2.2.2)))) := cmpsI.lex h3 Prod.fst Prod.snd (fun x y h1 h2 => Prod.ext h1 h2)
  exact cmpsS.lex h2 (fun x : FactT => x.2.2.2.1) (fun x => (x.2.2.1, x.1, x.2.1, x.2.2.2.2)) (fun x y h1 h2 => by
    obtain ⟨x1, x2, x3, x4, x5⟩ := x
    obtain ⟨y1, y2, y3, y4, y5⟩ := y
    simp only [Prod.mk.injEq] at h1 h2 ⊢
    exact ⟨h2.2.1, h2.2.2.1, h2.1, h1, h2.2.2.2⟩)
theorem stoF : STO ltF := cmpsF.sto
end Go.Proofs.YtmhkalalcmkpbaaGreat
