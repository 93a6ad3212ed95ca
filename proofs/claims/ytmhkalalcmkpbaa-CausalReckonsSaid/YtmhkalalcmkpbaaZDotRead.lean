/-
  DotRead
-/
import Derived.Test.YtmhkalalcmkpbaaZDotApp
import Derived.Test.YtmhkalalcmkpbaaZDotPut
import Derived.Test.YtmhkalalcmkpbaaZDotRSort
namespace Go.Proofs.Ytmhkalalcmkpbaa
open Go.RowKit
set_option linter.unusedVariables false
set_option linter.unusedSimpArgs false

theorem Rdr.grown {w w' : World} {p g : Nat} {s : ByteArray} {e : Int} (h : Rdr w p s e) (hb : Below g w w') (hg : p < g) : Rdr w' p s e :=
  ⟨Nat.lt_of_lt_of_le h.lt hb.size, (hb.cell (p := ⟨p, 0, none⟩) hg).trans h.text, (hb.cell (p := ⟨p, 1, none⟩) hg).trans h.err, (hb.frozen (p := ⟨p, 0, none⟩) hg).trans h.free0, (hb.frozen (p := ⟨p, 1, none⟩) hg).trans h.free1⟩
theorem OwnD.lenV {w : World} {base : Nat} {v : Value} {l : List (Int × Int)} (h : OwnD w base v l) : lenV v = l.length :=
  own_lenV h
/-- The same, and the slice is of the call's own. -/
def RetO (w0 : Nat) (w' : World) (e : Ending) (l : List (Int × Int)) (er : Int) : Prop := ∃ v, e = .returned (.tuple #[v, .int .i64 er]) ∧ OwnD w' w0 v l
theorem rdL_step (n : Nat) (st : ByteArray × Int) (h : st.2 = 0) : rdL (n + 1) st = ((((rdN st).1 : Int), ((rdN (rdN st).2).1 : Int)) :: (rdL n (rdN (rdN st).2).2).1, (rdL n (rdN (rdN st).2).2).2) := by
  show (if st.2 ≠ 0 then _ else _) = _
  rw [if_neg (by simpa using h)]
theorem rdL_stop (n : Nat) (st : ByteArray × Int) (h : st.2 ≠ 0) : rdL n st = ([], st) := by
  cases n with
  | zero => rfl
  | succ n => show (if st.2 ≠ 0 then _ else _) = _
              rw [if_pos h]
/-- Where the reading stands: what is read, and what is to come. -/
def Stands (n : Nat) (st0 : ByteArray × Int) (acc : List (Int × Int)) (st : ByteArray × Int) : Prop :=
  acc.length ≤ n ∧ rdL n st0 = (acc ++ (rdL (n - acc.length) st).1, (rdL (n - acc.length) st).2)
theorem Stands.start (n : Nat) (st : ByteArray × Int) : Stands n st [] st := ⟨Nat.zero_le _, by simp⟩
theorem Stands.next {n : Nat} {st0 st : ByteArray × Int} {acc : List (Int × Int)} (h : Stands n st0 acc st) (h0 : st.2 = 0) (hl : acc.length < n) : Stands n st0 (acc ++ [(((rdN st).1 : Int), ((rdN (rdN st).2).1 : Int))]) (rdN (rdN st).2).2 := by
  have e : n - acc.length = (n - (acc.length + 1)) + 1 := by omega
  have h2 := h.2
  rw [e, rdL_step _ _ h0] at h2
  refine ⟨by simp; omega, ?_⟩
  rw [h2]; simp
theorem Stands.done {n : Nat} {st0 st : ByteArray × Int} {acc : List (Int × Int)} (h : Stands n st0 acc st) (hd : ¬ (acc.length < n ∧ st.2 = 0)) : rdL n st0 = (acc, st) := by
  have h2 := h.2
  by_cases hl : acc.length < n
  · rw [rdL_stop _ _ (fun g => hd ⟨hl, g⟩)] at h2
    simpa using h2
  · rw [show n - acc.length = 0 by have := h.1; omega] at h2
    simpa [rdL] using h2
theorem readD_long (s : ByteArray) (h : 4096 < (rdN (s, 0)).1) : readD s = ([], 3) := by unfold readD; rw [if_pos h]
theorem readD_done {s : ByteArray} {l : List (Int × Int)} {st : ByteArray × Int} (h : ¬ 4096 < (rdN (s, 0)).1) (hr : rdL (rdN (s, 0)).1 (rdN (s, 0)).2 = (l, st)) :
    readD s = if doneE st ≠ 0 then ([], doneE st) else if mayE l ≠ 0 then ([], mayE l) else (l, 0) := by
  unfold readD; rw [if_neg h, hr]

set_option maxHeartbeats 4000000 in
set_option maxRecDepth 100000 in
theorem readO_c (s : ByteArray) (hs : s.size < 1000000000) (w : World) :
    Calls Try.prog 84 #[.string s] w fun e w' => RetO w.heap.size w' e (readD s).1 (readD s).2 ∧ Below w.heap.size w w' := by
  have hst := fun W => rnum_read w.heap.size s 0 W
  have hsz1 := rdN_size (s, 0)
  simp only at hsz1
  generalize hx1 : rdN (s, 0) = x1 at *
  have HX1 := Lib.hid hx1
  clear hx1
  have HLONG : Hid (4096 < x1.1 → readD s = ([], 3)) := fun h => readD_long s (by rw [HX1.out]; exact h)
  have HDONE : Hid (¬ 4096 < x1.1 → ∀ l st, rdL x1.1 x1.2 = (l, st) → readD s = if doneE st ≠ 0 then ([], doneE st) else if mayE l ≠ 0 then ([], mayE l) else (l, 0)) :=
    fun h l st hr => readD_done (by rw [HX1.out]; exact h) (by rw [HX1.out]; exact hr)
  clear HX1
  generalize readD s = res at *
  obtain ⟨rl, re⟩ := res
  obtain ⟨n, s1, e1⟩ := x1
  simp only at hst hsz1 HLONG HDONE ⊢
  go_enter Try.func84, Try.ntmps84
  go_wp2_with fail
  refine (new_c s _).mono ?_
  rintro e w1 ⟨rfl, rfl⟩
  have hr0 := Rdr.start s w
  have HB1 : Hid (Below w.heap.size w (w.alloc (.cells #[.string s, .int .i64 0] 177))) := (Below.refl _ _).alloc (Nat.le_refl _) _
  generalize w.alloc (.cells #[.string s, .int .i64 0] 177) = w1 at *
  have hst1 := hst w1 hr0 (by omega)
  have HLT1 : Hid (w.heap.size < w1.heap.size) := hr0.lt
  clear hst hr0
  go_wp2_with fail
  refine hst1.mono ?_
  rintro e w2 ⟨rfl, hrd2, hg2⟩
  have HR2 := Lib.hid hrd2
  have HB2 : Hid (Below w.heap.size w w2) := HB1.out.trans (below_of_grown hg2 (by have := HLT1.out; omega) (Nat.le_refl _))
  have HLT2 : Hid (w.heap.size < w2.heap.size) := hrd2.lt
  clear hst1 hrd2 hg2 HB1 HLT1
  by_cases hbig : 4096 < n
  · have HE := Lib.hid (HLONG.out hbig)
    have hd : decide ((n : Int) > 4096) = true := decide_eq_true (by omega)
    clear HLONG HDONE hbig
    go_wp2_with fail
    go_ret2
    have hE := HE.out
    injection hE with hE1 hE2
    subst hE1 hE2
    exact ⟨⟨_, rfl, OwnD.nil _ _⟩, HB2.out⟩
  · have hd : decide ((n : Int) > 4096) = false := decide_eq_false (by omega)
    have HN : Hid (n ≤ 4096) := by show _ ≤ _; omega
    have HD := Lib.hid (HDONE.out hbig)
    clear HLONG HDONE hbig
    go_wp2_with fail
    go_loopw [6] (fun vo wr => ∃ (acc : List (Int × Int)) (s2 : ByteArray) (e2 : Int), Hid (OwnD wr w2.heap.size vo acc) ∧ Hid (Rdr wr w.heap.size s2 e2) ∧ Hid (Below w.heap.size w wr) ∧ Hid (Stands n (s1, e1) acc (s2, e2)) ∧ Hid (w2.heap.size ≤ wr.heap.size) ∧ s2.size ≤ s1.size) (fun vo _ => n - lenV vo)
    case atStart => exact ⟨[], s1, e1, World.ownsRow_nil _ _ _ _, HR2, HB2, Stands.start _ _, Nat.le_refl _, Nat.le_refl _⟩
    case round =>
      clear HR2 HB2
      obtain ⟨acc, s2, e2, HO, HRD, HB, HS, HWW, hsz2⟩ := hrel
      obtain ⟨Ao, co, rfl, hco, hro⟩ := OwnD.form HO.out
      have HRO := Lib.hid hro
      have HCO := Lib.hid hco
      clear hro hco
      have hec := err_c w.heap.size s2 e2 wr HRD.out
      by_cases hlt : acc.length < n
      · by_cases he : e2 = 0
        · subst he
          have hd3 : decide ((acc.length : Int) < (n : Int)) = true := decide_eq_true (by omega)
          have HS2 := Lib.hid (HS.out.next rfl hlt)
          have hn1 := rnum_read w.heap.size s2 0 wr HRD.out (by omega)
          have hz1 := rdN_size (s2, 0)
          simp only at hz1
          generalize rdN (s2, 0) = y1 at *
          obtain ⟨a1, s3, e3⟩ := y1
          simp only at hn1 hz1 HS2
          have hz2 := rdN_size (s3, e3)
          have hn2 := fun W (h : Rdr W w.heap.size s3 e3) => rnum_read w.heap.size s3 e3 W h (by omega)
          simp only at hz2
          generalize rdN (s3, e3) = y2 at *
          obtain ⟨a2, s4, e4⟩ := y2
          simp only at hn2 hz2 HS2
          clear HD HS HRO HCO
          go_wp2_with fail
          refine hec.mono ?_
          rintro e w5 ⟨rfl, rfl⟩
          go_wp2_with fail
          refine hn1.mono ?_
          rintro e w3 ⟨rfl, hrd3, hg3⟩
          have HO3 := Lib.hid (own_grown HO.out hg3 HLT2.out)
          have HB3 : Hid (Below w.heap.size w w3) := HB.out.trans (below_of_grown hg3 HB.out.size (Nat.le_refl _))
          have HW3 : Hid (w2.heap.size ≤ w3.heap.size) := Nat.le_trans HWW.out hg3.size
          have hn3 := hn2 w3 hrd3
          clear hn1 hn2 hrd3 hg3 hec
          go_wp2_with fail
          refine hn3.mono ?_
          rintro e w4 ⟨rfl, hrd4, hg4⟩
          have HO4 := Lib.hid (own_grown HO3.out hg4 HLT2.out)
          have HB4 : Hid (Below w.heap.size w w4) := HB3.out.trans (below_of_grown hg4 HB3.out.size (Nat.le_refl _))
          have HR4 := Lib.hid hrd4
          have HW4 : Hid (w2.heap.size ≤ w4.heap.size) := Nat.le_trans HW3.out hg4.size
          clear hn3 hrd4 hg4 HO3 HB3 HW3
          go_wp2_with (at_builtin; refine app_dot1 (a1 : Int) (a2 : Int) HO4.out (by have := HN.out; omega) HW4.out rfl _ _ rfl rfl rfl ?_; intro v5 w5 ho5 hb5)
          have HO5 := Lib.hid ho5
          have HR5 : Hid (Rdr w5 w.heap.size s4 e4) := HR4.out.grown hb5 HLT2.out
          have HB5 : Hid (Below w.heap.size w w5) := HB4.out.trans (hb5.mono (Nat.le_of_lt HLT2.out))
          have hlen5 := OwnD.lenV ho5
          rw [List.length_append, List.length_singleton] at hlen5
          have HL5 := Lib.hid hlen5
          have HW5 : Hid (w2.heap.size ≤ w5.heap.size) := Nat.le_trans HW4.out hb5.size
          clear ho5 hb5 hlen5
          go_roundw
          case rel => exact ⟨_, s4, e4, HO5, HR5, HB5, HS2, HW5, by omega⟩
          case measure => rw [HL5.out]; show _ < n - acc.length; omega
        · have hd3 : decide ((acc.length : Int) < (n : Int)) = true := decide_eq_true (by omega)
          have heb : (e2 == 0) = false := by simpa using he
          have HLAST : Hid ((rl, re) = if doneE (s2, e2) ≠ 0 then ([], doneE (s2, e2)) else if mayE acc ≠ 0 then ([], mayE acc) else (acc, 0)) := HD.out acc (s2, e2) (HS.out.done (by simp only; omega))
          have hdc := done_c w.heap.size s2 e2 wr HRD.out
          have hac : acc.length < 1000000 := by have := HS.out.1; have := HN.out; omega
          have hmc := fun W (h : RdD W W.heap.size Ao acc.length acc) => may_c Ao acc.length co W.heap.size acc W h (Nat.le_refl _) hac
          have HRO2 := HRO
          generalize doneE (s2, e2) = d1 at *
          generalize hma : mayE acc = m1 at *
          clear hma hac
          by_cases hd1 : d1 = 0
          · subst hd1
            by_cases hm1 : m1 = 0
            · subst hm1
              have HE : Hid ((rl, re) = (acc, 0)) := by
                show _ = _
                have := HLAST.out
                rwa [if_neg (by simp), if_neg (by simp)] at this
              clear HLAST HD HS
              go_wp2_with fail
              refine hec.mono ?_
              rintro e w8 ⟨rfl, rfl⟩
              go_wp2_with fail
              refine hdc.mono ?_
              rintro e w5 ⟨rfl, rfl⟩
              go_wp2_with fail
              refine (hmc _ HRO.out).mono ?_
              rintro e w6 ⟨rfl, hb6⟩
              go_wp2_with fail
              go_ret2
              have hE := HE.out
              injection hE with hE1 hE2
              subst hE1 hE2
              exact ⟨⟨_, rfl, World.ownsRow.mono (own_below HO.out hb6) (Nat.le_of_lt HLT2.out)⟩, HB.out.trans (hb6.mono HB.out.size)⟩
            · have HE : Hid ((rl, re) = ([], m1)) := by
                show _ = _
                have := HLAST.out
                rwa [if_neg (by simp), if_pos hm1] at this
              have hbm : (m1 != 0) = true := by simpa using hm1
              clear HLAST HD HS hm1
              go_wp2_with fail
              refine hec.mono ?_
              rintro e w8 ⟨rfl, rfl⟩
              go_wp2_with fail
              refine hdc.mono ?_
              rintro e w5 ⟨rfl, rfl⟩
              go_wp2_with fail
              refine (hmc _ HRO.out).mono ?_
              rintro e w6 ⟨rfl, hb6⟩
              go_wp2_with fail
              go_ret2
              have hE := HE.out
              injection hE with hE1 hE2
              subst hE1 hE2
              exact ⟨⟨_, rfl, OwnD.nil _ _⟩, HB.out.trans (hb6.mono HB.out.size)⟩
          · have HE : Hid ((rl, re) = ([], d1)) := by
              show _ = _
              have := HLAST.out
              rwa [if_pos hd1] at this
            have hbd : (d1 != 0) = true := by simpa using hd1
            clear HLAST HD HS hd1 hmc
            go_wp2_with fail
            refine hec.mono ?_
            rintro e w8 ⟨rfl, rfl⟩
            go_wp2_with fail
            refine hdc.mono ?_
            rintro e w5 ⟨rfl, rfl⟩
            go_wp2_with fail
            go_ret2
            have hE := HE.out
            injection hE with hE1 hE2
            subst hE1 hE2
            exact ⟨⟨_, rfl, OwnD.nil _ _⟩, HB.out⟩
      · have hd3 : decide ((acc.length : Int) < (n : Int)) = false := decide_eq_false (by omega)
        have HLAST : Hid ((rl, re) = if doneE (s2, e2) ≠ 0 then ([], doneE (s2, e2)) else if mayE acc ≠ 0 then ([], mayE acc) else (acc, 0)) := HD.out acc (s2, e2) (HS.out.done (by simp only; omega))
        have hdc := done_c w.heap.size s2 e2 wr HRD.out
        have hac : acc.length < 1000000 := by have := HS.out.1; have := HN.out; omega
        have hmc := fun W (h : RdD W W.heap.size Ao acc.length acc) => may_c Ao acc.length co W.heap.size acc W h (Nat.le_refl _) hac
        have HRO2 := HRO
        generalize doneE (s2, e2) = d1 at *
        generalize hma : mayE acc = m1 at *
        clear hma hac
        by_cases hd1 : d1 = 0
        · subst hd1
          by_cases hm1 : m1 = 0
          · subst hm1
            have HE : Hid ((rl, re) = (acc, 0)) := by
              show _ = _
              have := HLAST.out
              rwa [if_neg (by simp), if_neg (by simp)] at this
            clear HLAST HD HS
            go_wp2_with fail
            refine hdc.mono ?_
            rintro e w5 ⟨rfl, rfl⟩
            go_wp2_with fail
            refine (hmc _ HRO.out).mono ?_
            rintro e w6 ⟨rfl, hb6⟩
            go_wp2_with fail
            go_ret2
            have hE := HE.out
            injection hE with hE1 hE2
            subst hE1 hE2
            exact ⟨⟨_, rfl, World.ownsRow.mono (own_below HO.out hb6) (Nat.le_of_lt HLT2.out)⟩, HB.out.trans (hb6.mono HB.out.size)⟩
          · have HE : Hid ((rl, re) = ([], m1)) := by
              show _ = _
              have := HLAST.out
              rwa [if_neg (by simp), if_pos hm1] at this
            have hbm : (m1 != 0) = true := by simpa using hm1
            clear HLAST HD HS hm1
            go_wp2_with fail
            refine hdc.mono ?_
            rintro e w5 ⟨rfl, rfl⟩
            go_wp2_with fail
            refine (hmc _ HRO.out).mono ?_
            rintro e w6 ⟨rfl, hb6⟩
            go_wp2_with fail
            go_ret2
            have hE := HE.out
            injection hE with hE1 hE2
            subst hE1 hE2
            exact ⟨⟨_, rfl, OwnD.nil _ _⟩, HB.out.trans (hb6.mono HB.out.size)⟩
        · have HE : Hid ((rl, re) = ([], d1)) := by
            show _ = _
            have := HLAST.out
            rwa [if_pos hd1] at this
          have hbd : (d1 != 0) = true := by simpa using hd1
          clear HLAST HD HS hd1 hmc
          go_wp2_with fail
          refine hdc.mono ?_
          rintro e w5 ⟨rfl, rfl⟩
          go_wp2_with fail
          go_ret2
          have hE := HE.out
          injection hE with hE1 hE2
          subst hE1 hE2
          exact ⟨⟨_, rfl, OwnD.nil _ _⟩, HB.out⟩
end Go.Proofs.Ytmhkalalcmkpbaa
