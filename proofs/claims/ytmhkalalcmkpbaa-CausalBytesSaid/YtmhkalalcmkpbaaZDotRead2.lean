/-
  DotRead2
-/
import Derived.Test.YtmhkalalcmkpbaaZDotClone
import Derived.Test.YtmhkalalcmkpbaaZDotRead
namespace Go.Proofs.Ytmhkalalcmkpbaa
open Go.RowKit
set_option linter.unusedVariables false
set_option linter.unusedSimpArgs false

theorem Rdr.make (s : ByteArray) (e : Int) (w : World) (T : TypeId) : Rdr (w.alloc (.cells #[.string s, .int .i64 e] T)) w.heap.size s e := ⟨by simp, by simp, by simp, by simp, by simp⟩
theorem rdN_zero (st : ByteArray × Int) (h : (rdN st).2.2 ≠ 0) : (rdN st).1 = 0 := by
  unfold rdN at h ⊢
  split
  · rfl
  · split
    · rfl
    · rename_i a b; rw [if_neg a, if_neg b] at h; exact absurd rfl h
theorem Rdr.alloc {w : World} {p : Nat} {s : ByteArray} {e : Int} (h : Rdr w p s e) (o : Obj) : Rdr (w.alloc o) p s e := h.grown ((Below.refl w.heap.size w).alloc (Nat.le_refl _) o) h.lt

set_option maxHeartbeats 4000000 in
set_option maxRecDepth 100000 in
theorem rreadO_c (s : ByteArray) (hs : s.size < 1000000000) (w : World) :
    Calls Try.prog 88 #[.string s] w fun e w' => RetO w.heap.size w' e (readD s).1 (readD s).2 ∧ Below w.heap.size w w' := by
  have hst := rrnum_c s 0 (by omega) w
  have hsz1 := rdN_size (s, 0)
  have hnz := rdN_zero (s, 0)
  simp only at hsz1
  generalize hx1 : rdN (s, 0) = x1 at *
  have HX1 := Lib.hid hx1
  clear hx1
  have HLONG : Hid (4096 < x1.1 → readD s = ([], 3)) := fun h => readD_long s (by rw [HX1.out]; exact h)
  have HDONE : Hid (¬ 4096 < x1.1 → ∀ l st, rdL x1.1 x1.2 = (l, st) → readD s = if doneE st ≠ 0 then ([], doneE st) else if mayE l ≠ 0 then ([], mayE l) else (l, 0)) :=
    fun h l st hr => readD_done (by rw [HX1.out]; exact h) (by rw [HX1.out]; exact hr)
  clear HX1
  generalize readD s = res at *
  obtain ⟨rl, re⟩ := res
  obtain ⟨n, s1, e1⟩ := x1
  simp only at hst hsz1 HLONG HDONE hnz ⊢
  have HNZ := Lib.hid hnz
  clear hnz
  go_enter Try.func88, Try.ntmps88
  go_wp2_with fail
  refine hst.mono ?_
  rintro e w1 ⟨rfl, hb1⟩
  have HB1 : Hid (Below w.heap.size w (w1.alloc (.cells #[.string s1, .int .i64 e1] 127))) := hb1.alloc hb1.size _
  have HR1 : Hid (Rdr (w1.alloc (.cells #[.string s1, .int .i64 e1] 127)) w1.heap.size s1 e1) := Rdr.make _ _ _ _
  have HP : Hid (w.heap.size ≤ w1.heap.size) := hb1.size
  have HPW : Hid (w1.heap.size < (w1.alloc (.cells #[.string s1, .int .i64 e1] 127)).heap.size) := by show _ < _; simp
  clear hst hb1
  by_cases hbig : 4096 < n
  · have HE := Lib.hid (HLONG.out hbig)
    have he1 : e1 = 0 := by
      by_cases h : e1 = 0
      · exact h
      · have := HNZ.out h; omega
    subst he1
    have hd : decide ((n : Int) > 4096) = true := decide_eq_true (by omega)
    clear HLONG HDONE hbig
    go_wp2_with fail
    go_ret2
    have hE := HE.out
    injection hE with hE1 hE2
    subst hE1 hE2
    exact ⟨⟨_, rfl, OwnD.nil _ _⟩, HB1.out⟩
  · have hd : decide ((n : Int) > 4096) = false := decide_eq_false (by omega)
    have HN : Hid (n ≤ 4096) := by show _ ≤ _; omega
    have HD := Lib.hid (HDONE.out hbig)
    clear HLONG HDONE hbig
    by_cases he1 : e1 = 0
    · subst he1
      go_wp2_with fail
      generalize hp1 : w1.heap.size = p at *
      clear hp1
      generalize w1.alloc (.cells #[.string s1, .int .i64 0] 127) = w2 at *
      go_loopw [6, 7, 8, 9, 10, 11] (fun vo vi _ _ _ _ wr => ∃ (acc : List (Int × Int)) (s2 : ByteArray) (e2 : Int), vi = .int .i64 acc.length ∧ acc.length ≤ n ∧ Hid (OwnD wr w2.heap.size vo acc) ∧ Hid (Rdr wr p s2 e2) ∧ Hid (Below w.heap.size w wr) ∧ Hid (Stands n (s1, 0) acc (s2, e2)) ∧ Hid (w2.heap.size ≤ wr.heap.size) ∧ s2.size ≤ s1.size) (fun _ vi _ _ _ _ _ => n - (intOf vi).toNat)
      case atStart => exact ⟨[], s1, 0, rfl, Nat.zero_le _, World.ownsRow_nil _ _ _ _, HR1, HB1, Stands.start _ _, Nat.le_refl _, Nat.le_refl _⟩
      case round =>
        clear HR1 HB1
        obtain ⟨acc, s2, e2, rfl, hal, HO, HRD, HB, HS, HWW, hsz2⟩ := hrel
        obtain ⟨Ao, co, rfl, hco, hro⟩ := OwnD.form HO.out
        have HRO := Lib.hid hro
        have HCO := Lib.hid hco
        clear hro hco
        have hcell0 := HRD.out.text
        have hcell1 := HRD.out.err
        have hfr0 := HRD.out.free0
        have hfr1 := HRD.out.free1
        by_cases hlt : acc.length < n
        · by_cases he : e2 = 0
          · subst he
            have hd3 : decide ((acc.length : Int) < (n : Int)) = true := decide_eq_true (by omega)
            have hn4 : n ≤ 4096 := HN.out
            have HS2 := Lib.hid (HS.out.next rfl hlt)
            have hn1 := rrnum_c s2 0 (by omega) wr
            have hz1 := rdN_size (s2, 0)
            simp only at hz1
            generalize rdN (s2, 0) = y1 at *
            obtain ⟨a1, s3, e3⟩ := y1
            simp only at hn1 hz1 HS2
            have hz2 := rdN_size (s3, e3)
            have hn2 := fun W => rrnum_c s3 e3 (by omega) W
            simp only at hz2
            generalize rdN (s3, e3) = y2 at *
            obtain ⟨a2, s4, e4⟩ := y2
            simp only at hn2 hz2 HS2
            clear HD HS HRO HCO
            go_wp2_with fail
            refine hn1.mono ?_
            rintro e w3 ⟨rfl, hb3⟩
            have HO3 := Lib.hid ((own_below HO.out hb3).alloc (.cells #[.string s3, .int .i64 e3] 127))
            have HB3 : Hid (Below w.heap.size w (w3.alloc (.cells #[.string s3, .int .i64 e3] 127))) := (HB.out.trans (hb3.mono HB.out.size)).alloc (Nat.le_trans HB.out.size hb3.size) _
            have HW3 : Hid (w2.heap.size ≤ (w3.alloc (.cells #[.string s3, .int .i64 e3] 127)).heap.size) := by show _ ≤ _; have h1 := HWW.out; have h2 := hb3.size; simp; omega
            have HR3 : Hid (Rdr (w3.alloc (.cells #[.string s3, .int .i64 e3] 127)) p s2 0) := (HRD.out.grown hb3 HRD.out.lt).alloc _
            clear hn1 hb3 hcell0 hcell1 hfr0 hfr1
            go_wp2_with fail
            refine (hn2 _).mono ?_
            rintro e w4 ⟨rfl, hb4⟩
            have HO4 := Lib.hid ((own_below HO3.out hb4).alloc (.cells #[.string s4, .int .i64 e4] 127))
            have HB4 : Hid (Below w.heap.size w (w4.alloc (.cells #[.string s4, .int .i64 e4] 127))) := (HB3.out.trans (hb4.mono HB3.out.size)).alloc (Nat.le_trans HB3.out.size hb4.size) _
            have HW4 : Hid (w2.heap.size ≤ (w4.alloc (.cells #[.string s4, .int .i64 e4] 127)).heap.size) := by show _ ≤ _; have h1 := HW3.out; have h2 := hb4.size; simp at h1 h2 ⊢; omega
            have hr4 : Rdr (w4.alloc (.cells #[.string s4, .int .i64 e4] 127)) p s2 0 := (HR3.out.grown hb4 HR3.out.lt).alloc _
            have HR4 := Lib.hid ((hr4.set0 s4).set1 e4)
            have HO5 := Lib.hid (own_grown (own_grown HO4.out (grown_cell _ p 0 (.string s4)) HPW.out) (grown_cell _ p 1 (.int .i64 e4)) HPW.out)
            have HB5 : Hid (Below w.heap.size w (((w4.alloc (.cells #[.string s4, .int .i64 e4] 127)).setCell ⟨p, 0, none⟩ (.string s4)).setCell ⟨p, 1, none⟩ (.int .i64 e4))) := (HB4.out.setCell HP.out _).setCell HP.out _
            have HW5 : Hid (w2.heap.size ≤ (((w4.alloc (.cells #[.string s4, .int .i64 e4] 127)).setCell ⟨p, 0, none⟩ (.string s4)).setCell ⟨p, 1, none⟩ (.int .i64 e4)).heap.size) := by show _ ≤ _; have h1 := HW4.out; simpa [World.setCell] using h1
            have hcell0 := hr4.text
            have hcell1 := hr4.err
            have hfr0 := hr4.free0
            have hfr1 := hr4.free1
            clear hn2 hb4 HO3 HB3 HW3 HR3 hr4 HO4 HB4 HW4
            go_wp2_with (at_builtin; refine app_dot1g (a1 : Int) (a2 : Int) HO5.out (by have := HN.out; omega) HW5.out rfl _ _ rfl rfl (w4.heap.size + 1) (by simp) rfl ?_; intro v5 w5 ho5 hb5)
            have HO6 := Lib.hid ho5
            have HR6 : Hid (Rdr w5 p s4 e4) := HR4.out.grown hb5 HPW.out
            have HB6 : Hid (Below w.heap.size w w5) := HB5.out.trans (hb5.mono (Nat.le_of_lt (Nat.lt_of_le_of_lt HP.out HPW.out)))
            have HW6 : Hid (w2.heap.size ≤ w5.heap.size) := Nat.le_trans HW5.out hb5.size
            clear ho5 hb5
            go_roundw
            case rel => exact ⟨_, s4, e4, by rw [List.length_append, List.length_singleton]; go_num, by rw [List.length_append, List.length_singleton]; exact hlt, HO6, HR6, HB6, HS2, HW6, by omega⟩
            case measure => simp [intOf]; omega
          · have hd3 : decide ((acc.length : Int) < (n : Int)) = true := decide_eq_true (by omega)
            have heb : (e2 == 0) = false := by simpa using he
            have HLAST : Hid ((rl, re) = if doneE (s2, e2) ≠ 0 then ([], doneE (s2, e2)) else if mayE acc ≠ 0 then ([], mayE acc) else (acc, 0)) := HD.out acc (s2, e2) (HS.out.done (by simp only; omega))
            have hdc := fun w => rdone_c s2 e2 w
            have hac : acc.length < 1000000 := by have := HS.out.1; have := HN.out; omega
            have hmc := fun W (h : RdD W W.heap.size Ao acc.length acc) => rchecks_c Ao acc.length co W.heap.size acc W h (Nat.le_refl _) hac
            generalize doneE (s2, e2) = d1 at *
            generalize hma : mayE acc = m1 at *
            clear hma hac
            by_cases hd1 : d1 = 0
            · subst hd1
              by_cases hm1 : m1 = 0
              · subst hm1
                have HE : Hid ((rl, re) = (acc, 0)) := by
                  show _ = _
                  have := HLAST.out
                  rwa [if_neg (by simp), if_neg (by simp)] at this
                clear HLAST HD HS
                go_wp2_with fail
                refine (hdc _).mono ?_
                rintro e w5 ⟨rfl, hb5⟩
                have HRO5 : Hid (RdD w5 w5.heap.size Ao acc.length acc) := Reads.more (Reads.below HRO.out hb5) hb5.size; have HO5 := Lib.hid (own_below HO.out hb5)
                have HB5 : Hid (Below w.heap.size w w5) := HB.out.trans (hb5.mono HB.out.size)
                clear hb5 hdc
                go_wp2_with fail
                refine (hmc _ HRO5.out).mono ?_
                rintro e w6 ⟨rfl, hb6⟩
                go_wp2_with fail
                go_ret2
                have hE := HE.out
                injection hE with h0 hE2
                subst h0 hE2
                exact ⟨⟨_, rfl, World.ownsRow.mono (own_below HO5.out hb6) (Nat.le_trans HP.out (Nat.le_of_lt HPW.out))⟩, HB5.out.trans (hb6.mono HB5.out.size)⟩
              · have HE : Hid ((rl, re) = ([], m1)) := by
                  show _ = _
                  have := HLAST.out
                  rwa [if_neg (by simp), if_pos hm1] at this
                have hbm : (m1 != 0) = true := by simpa using hm1
                clear HLAST HD HS hm1
                go_wp2_with fail
                refine (hdc _).mono ?_
                rintro e w5 ⟨rfl, hb5⟩
                have HRO5 : Hid (RdD w5 w5.heap.size Ao acc.length acc) := Reads.more (Reads.below HRO.out hb5) hb5.size; have HO5 := Lib.hid (own_below HO.out hb5)
                have HB5 : Hid (Below w.heap.size w w5) := HB.out.trans (hb5.mono HB.out.size)
                clear hb5 hdc
                go_wp2_with fail
                refine (hmc _ HRO5.out).mono ?_
                rintro e w6 ⟨rfl, hb6⟩
                go_wp2_with fail
                go_ret2
                have hE := HE.out
                injection hE with h0 hE2
                subst h0 hE2
                exact ⟨⟨_, rfl, OwnD.nil _ _⟩, HB5.out.trans (hb6.mono HB5.out.size)⟩
            · have HE : Hid ((rl, re) = ([], d1)) := by
                show _ = _
                have := HLAST.out
                rwa [if_pos hd1] at this
              have hbd : (d1 != 0) = true := by simpa using hd1
              clear HLAST HD HS hd1 hmc
              go_wp2_with fail
              refine (hdc _).mono ?_
              rintro e w5 ⟨rfl, hb5⟩
              have HB5 : Hid (Below w.heap.size w w5) := HB.out.trans (hb5.mono HB.out.size)
              clear hb5 hdc
              go_wp2_with fail
              go_ret2
              have hE := HE.out
              injection hE with h0 hE2
              subst h0 hE2
              exact ⟨⟨_, rfl, OwnD.nil _ _⟩, HB5.out⟩
        · have hd3 : decide ((acc.length : Int) < (n : Int)) = false := decide_eq_false (by omega)
          have HLAST : Hid ((rl, re) = if doneE (s2, e2) ≠ 0 then ([], doneE (s2, e2)) else if mayE acc ≠ 0 then ([], mayE acc) else (acc, 0)) := HD.out acc (s2, e2) (HS.out.done (by simp only; omega))
          have hdc := fun w => rdone_c s2 e2 w
          have hac : acc.length < 1000000 := by have := HS.out.1; have := HN.out; omega
          have hmc := fun W (h : RdD W W.heap.size Ao acc.length acc) => rchecks_c Ao acc.length co W.heap.size acc W h (Nat.le_refl _) hac
          generalize doneE (s2, e2) = d1 at *
          generalize hma : mayE acc = m1 at *
          clear hma hac
          by_cases hd1 : d1 = 0
          · subst hd1
            by_cases hm1 : m1 = 0
            · subst hm1
              have HE : Hid ((rl, re) = (acc, 0)) := by
                show _ = _
                have := HLAST.out
                rwa [if_neg (by simp), if_neg (by simp)] at this
              clear HLAST HD HS
              go_wp2_with fail
              refine (hdc _).mono ?_
              rintro e w5 ⟨rfl, hb5⟩
              have HRO5 : Hid (RdD w5 w5.heap.size Ao acc.length acc) := Reads.more (Reads.below HRO.out hb5) hb5.size; have HO5 := Lib.hid (own_below HO.out hb5)
              have HB5 : Hid (Below w.heap.size w w5) := HB.out.trans (hb5.mono HB.out.size)
              clear hb5 hdc
              go_wp2_with fail
              refine (hmc _ HRO5.out).mono ?_
              rintro e w6 ⟨rfl, hb6⟩
              go_wp2_with fail
              go_ret2
              have hE := HE.out
              injection hE with h0 hE2
              subst h0 hE2
              exact ⟨⟨_, rfl, World.ownsRow.mono (own_below HO5.out hb6) (Nat.le_trans HP.out (Nat.le_of_lt HPW.out))⟩, HB5.out.trans (hb6.mono HB5.out.size)⟩
            · have HE : Hid ((rl, re) = ([], m1)) := by
                show _ = _
                have := HLAST.out
                rwa [if_neg (by simp), if_pos hm1] at this
              have hbm : (m1 != 0) = true := by simpa using hm1
              clear HLAST HD HS hm1
              go_wp2_with fail
              refine (hdc _).mono ?_
              rintro e w5 ⟨rfl, hb5⟩
              have HRO5 : Hid (RdD w5 w5.heap.size Ao acc.length acc) := Reads.more (Reads.below HRO.out hb5) hb5.size; have HO5 := Lib.hid (own_below HO.out hb5)
              have HB5 : Hid (Below w.heap.size w w5) := HB.out.trans (hb5.mono HB.out.size)
              clear hb5 hdc
              go_wp2_with fail
              refine (hmc _ HRO5.out).mono ?_
              rintro e w6 ⟨rfl, hb6⟩
              go_wp2_with fail
              go_ret2
              have hE := HE.out
              injection hE with h0 hE2
              subst h0 hE2
              exact ⟨⟨_, rfl, OwnD.nil _ _⟩, HB5.out.trans (hb6.mono HB5.out.size)⟩
          · have HE : Hid ((rl, re) = ([], d1)) := by
              show _ = _
              have := HLAST.out
              rwa [if_pos hd1] at this
            have hbd : (d1 != 0) = true := by simpa using hd1
            clear HLAST HD HS hd1 hmc
            go_wp2_with fail
            refine (hdc _).mono ?_
            rintro e w5 ⟨rfl, hb5⟩
            have HB5 : Hid (Below w.heap.size w w5) := HB.out.trans (hb5.mono HB.out.size)
            clear hb5 hdc
            go_wp2_with fail
            go_ret2
            have hE := HE.out
            injection hE with h0 hE2
            subst h0 hE2
            exact ⟨⟨_, rfl, OwnD.nil _ _⟩, HB5.out⟩
    · have heb : (e1 == 0) = false := by simpa using he1
      go_wp2_with fail
      generalize hp1 : w1.heap.size = p at *
      clear hp1
      generalize w1.alloc (.cells #[.string s1, .int .i64 e1] 127) = w2 at *
      go_loopw [6, 7, 8, 9, 10, 11] (fun vo vi _ _ _ _ wr => ∃ (acc : List (Int × Int)) (s2 : ByteArray) (e2 : Int), vi = .int .i64 acc.length ∧ acc.length ≤ n ∧ Hid (OwnD wr w2.heap.size vo acc) ∧ Hid (Rdr wr p s2 e2) ∧ Hid (Below w.heap.size w wr) ∧ Hid (Stands n (s1, e1) acc (s2, e2)) ∧ Hid (w2.heap.size ≤ wr.heap.size) ∧ s2.size ≤ s1.size) (fun _ vi _ _ _ _ _ => n - (intOf vi).toNat)
      case atStart => exact ⟨[], s1, e1, rfl, Nat.zero_le _, World.ownsRow_nil _ _ _ _, HR1, HB1, Stands.start _ _, Nat.le_refl _, Nat.le_refl _⟩
      case round =>
        clear HR1 HB1
        obtain ⟨acc, s2, e2, rfl, hal, HO, HRD, HB, HS, HWW, hsz2⟩ := hrel
        obtain ⟨Ao, co, rfl, hco, hro⟩ := OwnD.form HO.out
        have HRO := Lib.hid hro
        have HCO := Lib.hid hco
        clear hro hco
        have hcell0 := HRD.out.text
        have hcell1 := HRD.out.err
        have hfr0 := HRD.out.free0
        have hfr1 := HRD.out.free1
        by_cases hlt : acc.length < n
        · by_cases he : e2 = 0
          · subst he
            have hd3 : decide ((acc.length : Int) < (n : Int)) = true := decide_eq_true (by omega)
            have hn4 : n ≤ 4096 := HN.out
            have HS2 := Lib.hid (HS.out.next rfl hlt)
            have hn1 := rrnum_c s2 0 (by omega) wr
            have hz1 := rdN_size (s2, 0)
            simp only at hz1
            generalize rdN (s2, 0) = y1 at *
            obtain ⟨a1, s3, e3⟩ := y1
            simp only at hn1 hz1 HS2
            have hz2 := rdN_size (s3, e3)
            have hn2 := fun W => rrnum_c s3 e3 (by omega) W
            simp only at hz2
            generalize rdN (s3, e3) = y2 at *
            obtain ⟨a2, s4, e4⟩ := y2
            simp only at hn2 hz2 HS2
            clear HD HS HRO HCO
            go_wp2_with fail
            refine hn1.mono ?_
            rintro e w3 ⟨rfl, hb3⟩
            have HO3 := Lib.hid ((own_below HO.out hb3).alloc (.cells #[.string s3, .int .i64 e3] 127))
            have HB3 : Hid (Below w.heap.size w (w3.alloc (.cells #[.string s3, .int .i64 e3] 127))) := (HB.out.trans (hb3.mono HB.out.size)).alloc (Nat.le_trans HB.out.size hb3.size) _
            have HW3 : Hid (w2.heap.size ≤ (w3.alloc (.cells #[.string s3, .int .i64 e3] 127)).heap.size) := by show _ ≤ _; have h1 := HWW.out; have h2 := hb3.size; simp; omega
            have HR3 : Hid (Rdr (w3.alloc (.cells #[.string s3, .int .i64 e3] 127)) p s2 0) := (HRD.out.grown hb3 HRD.out.lt).alloc _
            clear hn1 hb3 hcell0 hcell1 hfr0 hfr1
            go_wp2_with fail
            refine (hn2 _).mono ?_
            rintro e w4 ⟨rfl, hb4⟩
            have HO4 := Lib.hid ((own_below HO3.out hb4).alloc (.cells #[.string s4, .int .i64 e4] 127))
            have HB4 : Hid (Below w.heap.size w (w4.alloc (.cells #[.string s4, .int .i64 e4] 127))) := (HB3.out.trans (hb4.mono HB3.out.size)).alloc (Nat.le_trans HB3.out.size hb4.size) _
            have HW4 : Hid (w2.heap.size ≤ (w4.alloc (.cells #[.string s4, .int .i64 e4] 127)).heap.size) := by show _ ≤ _; have h1 := HW3.out; have h2 := hb4.size; simp at h1 h2 ⊢; omega
            have hr4 : Rdr (w4.alloc (.cells #[.string s4, .int .i64 e4] 127)) p s2 0 := (HR3.out.grown hb4 HR3.out.lt).alloc _
            have HR4 := Lib.hid ((hr4.set0 s4).set1 e4)
            have HO5 := Lib.hid (own_grown (own_grown HO4.out (grown_cell _ p 0 (.string s4)) HPW.out) (grown_cell _ p 1 (.int .i64 e4)) HPW.out)
            have HB5 : Hid (Below w.heap.size w (((w4.alloc (.cells #[.string s4, .int .i64 e4] 127)).setCell ⟨p, 0, none⟩ (.string s4)).setCell ⟨p, 1, none⟩ (.int .i64 e4))) := (HB4.out.setCell HP.out _).setCell HP.out _
            have HW5 : Hid (w2.heap.size ≤ (((w4.alloc (.cells #[.string s4, .int .i64 e4] 127)).setCell ⟨p, 0, none⟩ (.string s4)).setCell ⟨p, 1, none⟩ (.int .i64 e4)).heap.size) := by show _ ≤ _; have h1 := HW4.out; simpa [World.setCell] using h1
            have hcell0 := hr4.text
            have hcell1 := hr4.err
            have hfr0 := hr4.free0
            have hfr1 := hr4.free1
            clear hn2 hb4 HO3 HB3 HW3 HR3 hr4 HO4 HB4 HW4
            go_wp2_with (at_builtin; refine app_dot1g (a1 : Int) (a2 : Int) HO5.out (by have := HN.out; omega) HW5.out rfl _ _ rfl rfl (w4.heap.size + 1) (by simp) rfl ?_; intro v5 w5 ho5 hb5)
            have HO6 := Lib.hid ho5
            have HR6 : Hid (Rdr w5 p s4 e4) := HR4.out.grown hb5 HPW.out
            have HB6 : Hid (Below w.heap.size w w5) := HB5.out.trans (hb5.mono (Nat.le_of_lt (Nat.lt_of_le_of_lt HP.out HPW.out)))
            have HW6 : Hid (w2.heap.size ≤ w5.heap.size) := Nat.le_trans HW5.out hb5.size
            clear ho5 hb5
            go_roundw
            case rel => exact ⟨_, s4, e4, by rw [List.length_append, List.length_singleton]; go_num, by rw [List.length_append, List.length_singleton]; exact hlt, HO6, HR6, HB6, HS2, HW6, by omega⟩
            case measure => simp [intOf]; omega
          · have hd3 : decide ((acc.length : Int) < (n : Int)) = true := decide_eq_true (by omega)
            have heb : (e2 == 0) = false := by simpa using he
            have HLAST : Hid ((rl, re) = if doneE (s2, e2) ≠ 0 then ([], doneE (s2, e2)) else if mayE acc ≠ 0 then ([], mayE acc) else (acc, 0)) := HD.out acc (s2, e2) (HS.out.done (by simp only; omega))
            have hdc := fun w => rdone_c s2 e2 w
            have hac : acc.length < 1000000 := by have := HS.out.1; have := HN.out; omega
            have hmc := fun W (h : RdD W W.heap.size Ao acc.length acc) => rchecks_c Ao acc.length co W.heap.size acc W h (Nat.le_refl _) hac
            generalize doneE (s2, e2) = d1 at *
            generalize hma : mayE acc = m1 at *
            clear hma hac
            by_cases hd1 : d1 = 0
            · subst hd1
              by_cases hm1 : m1 = 0
              · subst hm1
                have HE : Hid ((rl, re) = (acc, 0)) := by
                  show _ = _
                  have := HLAST.out
                  rwa [if_neg (by simp), if_neg (by simp)] at this
                clear HLAST HD HS
                go_wp2_with fail
                refine (hdc _).mono ?_
                rintro e w5 ⟨rfl, hb5⟩
                have HRO5 : Hid (RdD w5 w5.heap.size Ao acc.length acc) := Reads.more (Reads.below HRO.out hb5) hb5.size; have HO5 := Lib.hid (own_below HO.out hb5)
                have HB5 : Hid (Below w.heap.size w w5) := HB.out.trans (hb5.mono HB.out.size)
                clear hb5 hdc
                go_wp2_with fail
                refine (hmc _ HRO5.out).mono ?_
                rintro e w6 ⟨rfl, hb6⟩
                go_wp2_with fail
                go_ret2
                have hE := HE.out
                injection hE with he1 hE2
                subst he1 hE2
                exact ⟨⟨_, rfl, World.ownsRow.mono (own_below HO5.out hb6) (Nat.le_trans HP.out (Nat.le_of_lt HPW.out))⟩, HB5.out.trans (hb6.mono HB5.out.size)⟩
              · have HE : Hid ((rl, re) = ([], m1)) := by
                  show _ = _
                  have := HLAST.out
                  rwa [if_neg (by simp), if_pos hm1] at this
                have hbm : (m1 != 0) = true := by simpa using hm1
                clear HLAST HD HS hm1
                go_wp2_with fail
                refine (hdc _).mono ?_
                rintro e w5 ⟨rfl, hb5⟩
                have HRO5 : Hid (RdD w5 w5.heap.size Ao acc.length acc) := Reads.more (Reads.below HRO.out hb5) hb5.size; have HO5 := Lib.hid (own_below HO.out hb5)
                have HB5 : Hid (Below w.heap.size w w5) := HB.out.trans (hb5.mono HB.out.size)
                clear hb5 hdc
                go_wp2_with fail
                refine (hmc _ HRO5.out).mono ?_
                rintro e w6 ⟨rfl, hb6⟩
                go_wp2_with fail
                go_ret2
                have hE := HE.out
                injection hE with he1 hE2
                subst he1 hE2
                exact ⟨⟨_, rfl, OwnD.nil _ _⟩, HB5.out.trans (hb6.mono HB5.out.size)⟩
            · have HE : Hid ((rl, re) = ([], d1)) := by
                show _ = _
                have := HLAST.out
                rwa [if_pos hd1] at this
              have hbd : (d1 != 0) = true := by simpa using hd1
              clear HLAST HD HS hd1 hmc
              go_wp2_with fail
              refine (hdc _).mono ?_
              rintro e w5 ⟨rfl, hb5⟩
              have HB5 : Hid (Below w.heap.size w w5) := HB.out.trans (hb5.mono HB.out.size)
              clear hb5 hdc
              go_wp2_with fail
              go_ret2
              have hE := HE.out
              injection hE with he1 hE2
              subst he1 hE2
              exact ⟨⟨_, rfl, OwnD.nil _ _⟩, HB5.out⟩
        · have hd3 : decide ((acc.length : Int) < (n : Int)) = false := decide_eq_false (by omega)
          have HLAST : Hid ((rl, re) = if doneE (s2, e2) ≠ 0 then ([], doneE (s2, e2)) else if mayE acc ≠ 0 then ([], mayE acc) else (acc, 0)) := HD.out acc (s2, e2) (HS.out.done (by simp only; omega))
          have hdc := fun w => rdone_c s2 e2 w
          have hac : acc.length < 1000000 := by have := HS.out.1; have := HN.out; omega
          have hmc := fun W (h : RdD W W.heap.size Ao acc.length acc) => rchecks_c Ao acc.length co W.heap.size acc W h (Nat.le_refl _) hac
          generalize doneE (s2, e2) = d1 at *
          generalize hma : mayE acc = m1 at *
          clear hma hac
          by_cases hd1 : d1 = 0
          · subst hd1
            by_cases hm1 : m1 = 0
            · subst hm1
              have HE : Hid ((rl, re) = (acc, 0)) := by
                show _ = _
                have := HLAST.out
                rwa [if_neg (by simp), if_neg (by simp)] at this
              clear HLAST HD HS
              go_wp2_with fail
              refine (hdc _).mono ?_
              rintro e w5 ⟨rfl, hb5⟩
              have HRO5 : Hid (RdD w5 w5.heap.size Ao acc.length acc) := Reads.more (Reads.below HRO.out hb5) hb5.size; have HO5 := Lib.hid (own_below HO.out hb5)
              have HB5 : Hid (Below w.heap.size w w5) := HB.out.trans (hb5.mono HB.out.size)
              clear hb5 hdc
              go_wp2_with fail
              refine (hmc _ HRO5.out).mono ?_
              rintro e w6 ⟨rfl, hb6⟩
              go_wp2_with fail
              go_ret2
              have hE := HE.out
              injection hE with he1 hE2
              subst he1 hE2
              exact ⟨⟨_, rfl, World.ownsRow.mono (own_below HO5.out hb6) (Nat.le_trans HP.out (Nat.le_of_lt HPW.out))⟩, HB5.out.trans (hb6.mono HB5.out.size)⟩
            · have HE : Hid ((rl, re) = ([], m1)) := by
                show _ = _
                have := HLAST.out
                rwa [if_neg (by simp), if_pos hm1] at this
              have hbm : (m1 != 0) = true := by simpa using hm1
              clear HLAST HD HS hm1
              go_wp2_with fail
              refine (hdc _).mono ?_
              rintro e w5 ⟨rfl, hb5⟩
              have HRO5 : Hid (RdD w5 w5.heap.size Ao acc.length acc) := Reads.more (Reads.below HRO.out hb5) hb5.size; have HO5 := Lib.hid (own_below HO.out hb5)
              have HB5 : Hid (Below w.heap.size w w5) := HB.out.trans (hb5.mono HB.out.size)
              clear hb5 hdc
              go_wp2_with fail
              refine (hmc _ HRO5.out).mono ?_
              rintro e w6 ⟨rfl, hb6⟩
              go_wp2_with fail
              go_ret2
              have hE := HE.out
              injection hE with he1 hE2
              subst he1 hE2
              exact ⟨⟨_, rfl, OwnD.nil _ _⟩, HB5.out.trans (hb6.mono HB5.out.size)⟩
          · have HE : Hid ((rl, re) = ([], d1)) := by
              show _ = _
              have := HLAST.out
              rwa [if_pos hd1] at this
            have hbd : (d1 != 0) = true := by simpa using hd1
            clear HLAST HD HS hd1 hmc
            go_wp2_with fail
            refine (hdc _).mono ?_
            rintro e w5 ⟨rfl, hb5⟩
            have HB5 : Hid (Below w.heap.size w w5) := HB.out.trans (hb5.mono HB.out.size)
            clear hb5 hdc
            go_wp2_with fail
            go_ret2
            have hE := HE.out
            injection hE with he1 hE2
            subst he1 hE2
            exact ⟨⟨_, rfl, OwnD.nil _ _⟩, HB5.out⟩
theorem rread_c (s : ByteArray) (hs : s.size < 1000000000) (w : World) :
    Calls Try.prog 88 #[.string s] w fun e w' => RetR w.heap.size w' e (readD s).1 (readD s).2 ∧ Below w.heap.size w w' :=
  (rreadO_c s hs w).mono fun _ _ h => ⟨h.1.weak, h.2⟩
end Go.Proofs.Ytmhkalalcmkpbaa
