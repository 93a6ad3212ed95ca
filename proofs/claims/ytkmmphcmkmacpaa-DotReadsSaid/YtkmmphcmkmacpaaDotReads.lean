/-
  almonrylaw11.DotReads walked.
-/
import Derived.Test.YtkmmphcmkmacpaaDotAwake
namespace Go.Proofs.Ytkmmphcmkmacpaa
open Go.RowKit
set_option linter.unusedVariables false
set_option linter.unusedSimpArgs false

theorem read_len (s : ByteArray) : (readD s).1.length ≤ 4096 := by
  unfold readD
  split
  · simp
  · split
    · simp
    · split
      · simp
      · rename_i h _ _
        have key : ∀ (n : Nat) (st : ByteArray × Int), (rdL n st).1.length ≤ n := by
          intro n
          induction n with
          | zero => intro st; simp [rdL]
          | succ n ih =>
            intro st
            by_cases h : st.2 = 0
            · rw [rdL_step _ _ h]; have := ih (rdN (rdN st).2).2; simp; omega
            · rw [rdL_stop _ _ h]; simp
        have := key (rdN (s, 0)).1 (rdN (s, 0)).2
        show (rdL (rdN (s, 0)).1 (rdN (s, 0)).2).1.length ≤ 4096
        omega
theorem putS_size (l : List (Int × Int)) : (putS l).size ≤ 8 + 16 * l.length := by
  unfold putS
  split
  · exact Nat.zero_le _
  · have h1 := putL_size l (numS l.length)
    have h2 := numS_size l.length
    omega

set_option maxHeartbeats 4000000 in
set_option maxRecDepth 100000 in
theorem reads_walk (s : ByteArray) (A : Option Addr) (n c B : Nat) (l : List (Int × Int)) (w : World) (h1 : RdD w B A n l) (hB : B ≤ w.heap.size) (hsm : s.size ≤ 9223372036854775807) :
    Calls Try.prog 10 #[.string s, .slice A n c] w fun e w' => e = .returned (.bool true) ∧ Below w.heap.size w w' := by
  have HX := Lib.hid h1.len
  have HR := Lib.hid (Reads.more h1 hB)
  clear h1 hB
  by_cases hbig1 : 2000 < s.size
  · have hd : decide ((s.size : Int) > 2000) = true := decide_eq_true (by omega)
    go_enter Try.func10, Try.ntmps10
    go_wp2_with fail
    refine (awake11_c _).mono ?_
    rintro e w' ⟨rfl, hb⟩
    go_wp2
    go_ret
    exact ⟨rfl, hb⟩
  · have hd1 : decide ((s.size : Int) > 2000) = false := decide_eq_false (by omega)
    by_cases hbig2 : 100 < n
    · have hd : decide ((n : Int) > 100) = true := decide_eq_true (by omega)
      go_enter Try.func10, Try.ntmps10
      go_wp2_with fail
      refine (awake11_c _).mono ?_
      rintro e w' ⟨rfl, hb⟩
      go_wp2
      go_ret
      exact ⟨rfl, hb⟩
    · have hd2 : decide ((n : Int) > 100) = false := decide_eq_false (by omega)
      have HN : Hid (n < 1000000) := by show _ < _; omega
      have HSO : Hid ((sortK ltD l).length ≤ 100) := by
        have h1 := sortK_length_le (lt := ltD) l
        have h2 := HX.out
        show _ ≤ _; omega
      have hr1 := read_c s (by omega) w
      have hr2 := fun W => rread_c s (by omega) W
      have HA : Hid ((readD s).2 = 0 → putS (readD s).1 = s ∧ putE (readD s).1 = 0) := fun h => ⟨(readD_back s h).2, (readD_back s h).1⟩
      have HAL : Hid ((readD s).1.length < 1000000) := by have := read_len s; show _ < _; omega
      have hp1 := fun W A c (h : RdD W W.heap.size A (readD s).1.length (readD s).1) => put_c A (readD s).1.length c _ _ W h (Nat.le_refl _) HAL.out
      have HC : Hid (putE (sortK ltD l) = 0 → readD (putS (sortK ltD l)) = (sortK ltD l, 0)) := fun h => readD_put _ h
      have HPZ : (putS (sortK ltD l)).size < 1000000000 := by have h1 := putS_size (sortK ltD l); have h2 := HSO.out; omega
      have hr3 := fun W => read_c (putS (sortK ltD l)) HPZ W
      have HDL : Hid ((readD (putS (sortK ltD l))).1.length < 1000000) := by have := read_len (putS (sortK ltD l)); show _ < _; omega
      have hp2 := fun W A c (h : RdD W W.heap.size A (sortK ltD l).length (sortK ltD l)) => put_c A (sortK ltD l).length c _ _ W h (Nat.le_refl _) (by have := HSO.out; omega)
      have hso := fun W (h : RdD W w.heap.size A n l) (hB : w.heap.size ≤ W.heap.size) => sort_c A n c w.heap.size l W h hB HN.out
      have hrs := fun W (h : RdD W w.heap.size A n l) (hB : w.heap.size ≤ W.heap.size) => rsort_c A n c w.heap.size l W h hB HN.out
      clear HPZ
      generalize readD (putS (sortK ltD l)) = rd at *
      obtain ⟨rl, r2⟩ := rd
      generalize putS (sortK ltD l) = ps at *
      generalize putE (sortK ltD l) = qs at *
      generalize readD s = ra at *
      obtain ⟨ra, e1⟩ := ra
      simp only at hr1 hr2 HA HAL hp1 HC hr3 HDL
      generalize putS ra = pa at *
      generalize putE ra = qa at *
      generalize sortK ltD l = so at *
      go_enter Try.func10, Try.ntmps10
      go_wp2_with fail
      refine hr1.mono ?_
      rintro e w1 ⟨⟨A1, m1, c1, rfl, hc1, hq1⟩, hb1⟩
      obtain rfl : ra.length = m1 := hq1.len
      have HB1 := Lib.hid hb1
      have HQ1 := Lib.hid hq1
      clear hr1 hb1 hq1 hc1
      go_wp2_with fail
      refine (hr2 _).mono ?_
      rintro e w2 ⟨⟨A2, m2, c2, rfl, hc2, hq2⟩, hb2⟩
      obtain rfl : ra.length = m2 := hq2.len
      have HB2 := keepB hb2 HB1
      have HQ2 := Lib.hid hq2
      have HQ1b : Hid (RdD w2 w2.heap.size A1 ra.length ra) := Reads.more (Reads.below HQ1.out hb2) hb2.size
      clear hr2 hb2 hq2 hc2 HB1 HQ1
      go_wp2_with fail
      refine (hp1 _ _ _ HQ1b.out).mono ?_
      rintro e w3 ⟨rfl, hb3⟩
      have HB3 := keepB hb3 HB2
      have HQ1 : Hid (RdD w3 w3.heap.size A1 ra.length ra) := Reads.more (Reads.below HQ1b.out hb3) hb3.size
      have HQ2b : Hid (RdD w3 w3.heap.size A2 ra.length ra) := Reads.more (Reads.below HQ2.out hb3) hb3.size
      have hso1 := hso w3 (Reads.below HR.out HB3.out) HB3.out.size
      clear hp1 hb3 HB2 HQ1b HQ2 hso
      go_wp2_with fail
      refine hso1.mono ?_
      rintro e w4 ⟨⟨A4, m4, c4, rfl, hc4, hq4⟩, hb4⟩
      obtain rfl : so.length = m4 := hq4.len
      have HB4 := keepB hb4 HB3
      have HQ1b : Hid (RdD w4 w4.heap.size A1 ra.length ra) := Reads.more (Reads.below HQ1.out hb4) hb4.size
      have HQ2 : Hid (RdD w4 w4.heap.size A2 ra.length ra) := Reads.more (Reads.below HQ2b.out hb4) hb4.size
      have HQ4 := Lib.hid hq4
      clear hso1 hb4 hq4 hc4 HB3 HQ1 HQ2b
      go_wp2_with fail
      refine (hp2 _ _ _ HQ4.out).mono ?_
      rintro e w5 ⟨rfl, hb5⟩
      have HB5 := keepB hb5 HB4
      have HQ1 : Hid (RdD w5 w5.heap.size A1 ra.length ra) := Reads.more (Reads.below HQ1b.out hb5) hb5.size
      have HQ2b : Hid (RdD w5 w5.heap.size A2 ra.length ra) := Reads.more (Reads.below HQ2.out hb5) hb5.size
      clear hp2 hb5 HB4 HQ1b HQ2 HQ4
      go_wp2_with fail
      refine (hr3 _).mono ?_
      rintro e w6 ⟨⟨A6, m6, c6, rfl, hc6, hq6⟩, hb6⟩
      obtain rfl : rl.length = m6 := hq6.len
      have HB6 := keepB hb6 HB5
      have HQ6 := Lib.hid hq6
      have hsame := rsame_c A1 A2 ra.length ra.length c1 c2 _ _ _ _ w6 (Reads.below HQ1.out hb6) (Reads.below HQ2b.out hb6) HAL.out HAL.out
      rw [decide_eq_true rfl] at hsame
      clear hr3 hb6 hq6 hc6 HB5 HQ1 HQ2b
      go_wp2_with fail
      refine hsame.mono ?_
      rintro e w7 ⟨rfl, q, rfl⟩
      have HB7 : Hid (Below w.heap.size w (w6.drewN q)) := below_drewN HB6.out q
      have HQ7 : Hid (RdD (w6.drewN q) (w6.drewN q).heap.size A6 rl.length rl) := HQ6.out
      clear HB6 HQ6 hsame
      generalize w6.drewN q = w7 at *
      have hrs1 := hrs w7 (Reads.below HR.out HB7.out) HB7.out.size
      clear hrs
      by_cases he : e1 = 0
      · subst he
        obtain ⟨hpa, hqa⟩ := HA.out rfl
        subst hpa hqa
        by_cases hh : qs = 0
        · subst hh
          have hrd := HC.out rfl
          injection hrd with hrl hr2
          subst hrl hr2
          go_wp2_with fail
          refine hrs1.mono ?_
          rintro e w8 ⟨v8, rfl, ho8, hb8⟩
          obtain ⟨A8, c8, rfl, hc8, hq8⟩ := OwnD.form ho8
          have HB8 := keepB hb8 HB7
          have hsm2 := rsame_c A6 A8 _ _ c6 c8 _ _ _ _ w8 (Reads.below HQ7.out hb8) hq8 HDL.out HDL.out
          rw [decide_eq_true rfl] at hsm2
          clear hb8 ho8 hc8 hq8 hrs1
          go_wp2_with fail
          refine hsm2.mono ?_
          rintro e w9 ⟨rfl, q2, rfl⟩
          clear hsm2
          go_wp2_with fail
          refine (awake11_c _).mono ?_
          rintro e w10 ⟨rfl, hb10⟩
          go_wp2
          go_ret
          exact ⟨rfl, (keepB hb10 (w := w) (by exact below_drewN HB8.out _)).out⟩
        · have hqb : (qs != 0) = true := by simpa using hh
          go_wp2_with fail
          refine (awake11_c _).mono ?_
          rintro e w10 ⟨rfl, hb10⟩
          go_wp2
          go_ret
          exact ⟨rfl, (keepB hb10 HB7).out⟩
      · have heb : (e1 != 0) = true := by simpa using he
        by_cases hh : qs = 0
        · subst hh
          have hrd := HC.out rfl
          injection hrd with hrl hr2
          subst hrl hr2
          go_wp2_with fail
          refine hrs1.mono ?_
          rintro e w8 ⟨v8, rfl, ho8, hb8⟩
          obtain ⟨A8, c8, rfl, hc8, hq8⟩ := OwnD.form ho8
          have HB8 := keepB hb8 HB7
          have hsm2 := rsame_c A6 A8 _ _ c6 c8 _ _ _ _ w8 (Reads.below HQ7.out hb8) hq8 HDL.out HDL.out
          rw [decide_eq_true rfl] at hsm2
          clear hb8 ho8 hc8 hq8 hrs1
          go_wp2_with fail
          refine hsm2.mono ?_
          rintro e w9 ⟨rfl, q2, rfl⟩
          clear hsm2
          go_wp2_with fail
          refine (awake11_c _).mono ?_
          rintro e w10 ⟨rfl, hb10⟩
          go_wp2
          go_ret
          exact ⟨rfl, (keepB hb10 (w := w) (by exact below_drewN HB8.out _)).out⟩
        · have hqb : (qs != 0) = true := by simpa using hh
          go_wp2_with fail
          refine (awake11_c _).mono ?_
          rintro e w10 ⟨rfl, hb10⟩
          go_wp2
          go_ret
          exact ⟨rfl, (keepB hb10 HB7).out⟩
end Go.Proofs.Ytkmmphcmkmacpaa
