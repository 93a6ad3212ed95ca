/-
  ChunkW ChunkR ChunkRR FactCheck CmpS FacP
-/
import Derived.Test.YtmhkalalcmkpbaaZDotCmp
import Derived.Test.YtmhkalalcmkpbaaZDotRSort
import Derived.Test.YtmhkalalcmkpbaaZHexaR2
import Derived.Test.YtmhkalalcmkpbaaZOrd
import Derived.Test.YtmhkalalcmkpbaaZStampW
namespace Go.Proofs.Ytmhkalalcmkpbaa
open Go.RowKit
set_option linter.unusedVariables false
set_option linter.unusedSimpArgs false

theorem RdS.get {w : World} {B : Nat} {A : Option Addr} {n k : Nat} {l : List ByteArray} (h : RdS w B A n l) (hk : k < n) : ∃ b off, A = some ⟨b, off, none⟩ ∧ b < B ∧ w.cell? ⟨b, off + k, none⟩ = some (.string (l.getD k ⟨#[]⟩)) := by
  have hl := RdS.len h
  obtain ⟨ad, e, hb, hc⟩ := h.2 (by omega)
  have c1 := hc k (.string (l.getD k ⟨#[]⟩)) (by simp [List.getD, show k < l.length by omega])
  obtain ⟨b, off, spot⟩ := ad
  have c0 := hc 0 (.string (l.getD 0 ⟨#[]⟩)) (by simp [List.getD, show 0 < l.length by omega])
  have hs : spot = none := by simpa [Addr.add] using World.cell?_spot c0
  subst hs
  rw [add_flat] at c1
  exact ⟨b, off, e, hb, c1⟩
def manyN (n z : Nat) : Nat := (n + z - 1) / z
theorem manyN_ref (n z : Nat) (hz : 0 < z) : manyN n z = if 0 < n % z then n / z + 1 else n / z := by
  have hd := Nat.div_add_mod n z
  have hm := Nat.mod_lt n hz
  have hc : n / z * z = z * (n / z) := Nat.mul_comm _ _
  unfold manyN
  split
  · exact Nat.div_eq_of_lt_le (by rw [Nat.succ_mul]; omega) (by rw [Nat.succ_mul, Nat.succ_mul]; omega)
  · exact Nat.div_eq_of_lt_le (by omega) (by rw [Nat.succ_mul]; omega)
set_option maxRecDepth 100000 in
theorem many_c (n z : Nat) (hn : n ≤ 32768) (hz : 0 < z) (hz2 : z ≤ 4096) (w : World) : Calls Try.prog 195 #[.int .i64 n, .int .i64 z] w fun e w' => e = .returned (.int .i64 (manyN n z : Nat)) ∧ w' = w := by
  have e1 : ((n : Int) + (z : Int) - 1) / (z : Int) = ((manyN n z : Nat) : Int) := by
    unfold manyN
    rw [Int.natCast_ediv]; congr 1; omega
  have h0 : (0 : Int) < (z : Int) ∧ (z : Int) ≤ 4096 ∧ (0 : Int) ≤ (n : Int) ∧ (n : Int) ≤ 32768 := by omega
  have hne : ¬ (z : Int) = 0 := by omega
  have hm : manyN n z ≤ 40000 := by
    unfold manyN
    exact Nat.le_trans (Nat.div_le_self _ _) (by omega)
  generalize manyN n z = q at *
  have HE := Lib.hid e1
  clear e1
  go_enter Try.func195, Try.ntmps195
  go_wp2
  go_ret
  exact ⟨ret_int HE.out, rfl⟩
set_option maxRecDepth 100000 in
theorem rmany_c (n z : Nat) (hn : n ≤ 32768) (hz : 0 < z) (hz2 : z ≤ 4096) (w : World) : Calls Try.prog 191 #[.int .i64 n, .int .i64 z] w fun e w' => e = .returned (.int .i64 (manyN n z : Nat)) ∧ w' = w := by
  have hr := manyN_ref n z hz
  have h0 : (0 : Int) < (z : Int) ∧ (z : Int) ≤ 4096 ∧ (0 : Int) ≤ (n : Int) ∧ (n : Int) ≤ 32768 := by omega
  have hne : ¬ (z : Int) = 0 := by omega
  have e1 : (n : Int) / (z : Int) = ((n / z : Nat) : Int) := (Int.natCast_ediv _ _).symm
  have e2 : (n : Int) % (z : Int) = ((n % z : Nat) : Int) := (Int.natCast_emod _ _).symm
  have hq : n / z ≤ 32768 := Nat.le_trans (Nat.div_le_self _ _) hn
  generalize manyN n z = q at *
  generalize n % z = rr at *
  generalize n / z = dd at *
  by_cases hp : 0 < rr
  · rw [if_pos hp] at hr
    have hd : decide ((n : Int) % (z : Int) > 0) = true := decide_eq_true (by rw [e2]; omega)
    have hb : (0 : Int) ≤ (n : Int) / (z : Int) ∧ (n : Int) / (z : Int) ≤ 32768 := by rw [e1]; omega
    have HE : Hid ((n : Int) / (z : Int) + 1 = (q : Int)) := by show _ = _; rw [e1, hr]; rfl
    clear e1 e2 hr hp
    go_enter Try.func191, Try.ntmps191
    go_wp2
    go_ret
    exact ⟨ret_int HE.out, rfl⟩
  · rw [if_neg hp] at hr
    have hd : decide ((n : Int) % (z : Int) > 0) = false := decide_eq_false (by rw [e2]; omega)
    have hb : (0 : Int) ≤ (n : Int) / (z : Int) ∧ (n : Int) / (z : Int) ≤ 32768 := by rw [e1]; omega
    have HE : Hid ((n : Int) / (z : Int) = (q : Int)) := by show _ = _; rw [e1, hr]
    clear e1 e2 hr hp
    go_enter Try.func191, Try.ntmps191
    go_wp2
    go_ret
    exact ⟨ret_int HE.out, rfl⟩

/-- Why a manifest may not be. -/
def chkM (sz ch : Int) (ids : List ByteArray) : Int :=
  if ch < 1 ∨ 4096 < ch ∨ sz < 0 ∨ 32768 < sz then 2 else if ids.length ≠ manyN sz.toNat ch.toNat then 5 else
  if ids.all (fun s => decide (idE s = 0)) = false then 5 else if 4096 < ids.length then 3 else 0
abbrev manv (sz ch : Int) (A : Option Addr) (m c : Nat) : Value := .agg #[.int .i64 sz, .int .i64 ch, .slice A m c]
theorem idE_vals (s : ByteArray) : idE s = 0 ∨ idE s = 5 := by unfold idE; split; exact .inl rfl; exact .inr rfl
theorem all_take (l : List ByteArray) (p : ByteArray → Bool) (k : Nat) (h : k < l.length) : (l.take (k + 1)).all p = ((l.take k).all p && p (l.getD k ⟨#[]⟩)) := by
  rw [List.take_succ_eq_append_getElem h, List.all_append]; simp [List.getD, h]
theorem all_stop (l : List ByteArray) (p : ByteArray → Bool) (k : Nat) (h : k < l.length) (hf : p (l.getD k ⟨#[]⟩) = false) : l.all p = false := by
  rw [List.all_eq_false]
  refine ⟨l.getD k ⟨#[]⟩, ?_, by simpa using hf⟩
  simp [List.getD, h]

set_option maxHeartbeats 4000000 in
set_option maxRecDepth 100000 in
theorem mchk_c (sz ch : Int) (A : Option Addr) (m c B : Nat) (ids : List ByteArray) (w : World) (h1 : RdS w B A m ids) (hB : B ≤ w.heap.size) (hm : m < 1000000) (hz : ∀ s ∈ ids, s.size < 1000000000) :
    Calls Try.prog 177 #[manv sz ch A m c] w fun e w' => e = .returned (.int .i64 (chkM sz ch ids)) ∧ Below w.heap.size w w' := by
  have HX := Lib.hid (RdS.len h1)
  have HR := Lib.hid (Reads.more h1 hB)
  have HZ := Lib.hid hz
  clear h1 hB hz
  simp only [manv]
  by_cases h2 : ch < 1
  · have hc : chkM sz ch ids = 2 := if_pos (by omega)
    rw [hc]; clear hc
    have d0 : decide (ch < 1) = true := decide_eq_true (by omega)
    go_enter Try.func177, Try.ntmps177
    go_wp2
    go_ret
    exact ⟨rfl, (Below.refl _ _).alloc (Nat.le_refl _) _⟩
  · have d0 : decide (ch < 1) = false := decide_eq_false (by omega)
    by_cases h3 : 4096 < ch
    · have hc : chkM sz ch ids = 2 := if_pos (by omega)
      rw [hc]; clear hc
      have d1 : decide (ch > 4096) = true := decide_eq_true (by omega)
      go_enter Try.func177, Try.ntmps177
      go_wp2
      go_ret
      exact ⟨rfl, (Below.refl _ _).alloc (Nat.le_refl _) _⟩
    · have d1 : decide (ch > 4096) = false := decide_eq_false (by omega)
      by_cases h4 : sz < 0
      · have hc : chkM sz ch ids = 2 := if_pos (by omega)
        rw [hc]; clear hc
        have d2 : decide (sz < 0) = true := decide_eq_true (by omega)
        go_enter Try.func177, Try.ntmps177
        go_wp2
        go_ret
        exact ⟨rfl, (Below.refl _ _).alloc (Nat.le_refl _) _⟩
      · have d2 : decide (sz < 0) = false := decide_eq_false (by omega)
        by_cases h5 : 32768 < sz
        · have hc : chkM sz ch ids = 2 := if_pos (by omega)
          rw [hc]; clear hc
          have d3 : decide (sz > 32768) = true := decide_eq_true (by omega)
          go_enter Try.func177, Try.ntmps177
          go_wp2
          go_ret
          exact ⟨rfl, (Below.refl _ _).alloc (Nat.le_refl _) _⟩
        · have d3 : decide (sz > 32768) = false := decide_eq_false (by omega)
          obtain ⟨n, rfl⟩ := Int.eq_ofNat_of_zero_le (show 0 ≤ sz by omega)
          obtain ⟨z, rfl⟩ := Int.eq_ofNat_of_zero_le (show 0 ≤ ch by omega)
          have hmy := fun W => many_c n z (by omega) (by omega) (by omega) W
          generalize hr : chkM n z ids = r
          have HC : Hid (r = if m ≠ manyN n z then 5 else if ids.all (fun s => decide (idE s = 0)) = false then 5 else if 4096 < m then 3 else 0) := by
            show _ = _
            rw [← hr]; unfold chkM
            rw [if_neg (by omega), Int.toNat_natCast, Int.toNat_natCast, HX.out]
          clear hr
          have hmq : manyN n z ≤ 40000 := by
            unfold manyN
            exact Nat.le_trans (Nat.div_le_self _ _) (by omega)
          generalize manyN n z = q at *
          have g0 : (w.alloc (.cells #[.int .i64 (n : Int), .int .i64 (z : Int), .slice A m c] 201)).cell? ⟨w.heap.size, 0, none⟩ = some (.int .i64 (n : Int)) := by simp
          have g1 : (w.alloc (.cells #[.int .i64 (n : Int), .int .i64 (z : Int), .slice A m c] 201)).cell? ⟨w.heap.size, 1, none⟩ = some (.int .i64 (z : Int)) := by simp
          have g2 : (w.alloc (.cells #[.int .i64 (n : Int), .int .i64 (z : Int), .slice A m c] 201)).cell? ⟨w.heap.size, 2, none⟩ = some (.slice A m c) := by simp
          have HBA : Hid (Below w.heap.size w (w.alloc (.cells #[.int .i64 (n : Int), .int .i64 (z : Int), .slice A m c] 201))) := (Below.refl _ _).alloc (Nat.le_refl _) _
          have HWS : Hid (w.heap.size < (w.alloc (.cells #[.int .i64 (n : Int), .int .i64 (z : Int), .slice A m c] 201)).heap.size) := by show _ < _; simp
          go_enter Try.func177, Try.ntmps177
          go_wp2_with fail
          generalize w.alloc (.cells #[.int .i64 (n : Int), .int .i64 (z : Int), .slice A m c] 201) = w1 at *
          by_cases hmq2 : m = q
          · subst hmq2
            have hb : ((m : Int) != (m : Int)) = false := by simp
            have HC2 : Hid (r = if ids.all (fun s => decide (idE s = 0)) = false then 5 else if 4096 < m then 3 else 0) := by show _ = _; rw [HC.out, if_neg (by simp)]
            clear HC
            go_quiet ((go_at_call 195; exact Calls.quiet_of_same (hmy _)))
            have HG2 : Hid (∀ X, Below w1.heap.size w1 X → X.cell? ⟨w.heap.size, 2, none⟩ = some (.slice A m c)) := fun X hX => keepc hX g2
            have HDR : Hid (∀ q, Below w1.heap.size w1 (w1.drewN q)) := fun q => below_drewN (Below.refl _ _) q
            clear g0 g1 hmy
            go_wp2_with fail
            go_loopw [4, 37] (fun _ vi wr => ∃ (k : Nat), vi = .int .i64 k ∧ k ≤ m ∧ Hid (Below w1.heap.size w1 wr) ∧ Hid ((ids.take k).all (fun s => decide (idE s = 0)) = true)) (fun _ vi _ => m - (intOf vi).toNat)
            case atStart => exact ⟨0, rfl, by omega, (by first | exact HDR.out _ | exact Below.refl _ _ | (rw [World.drewN_drewN]; exact HDR.out _)), rfl⟩
            case round =>
              clear HDR g2
              obtain ⟨k, rfl, hk, HB, HA⟩ := hrel
              have g3 := HG2.out wr HB.out
              by_cases hlt : k < m
              · obtain ⟨b1, o1, rfl, hb1, hcell⟩ := RdS.get (Reads.below HR.out (HBA.out.trans (HB.out.mono HBA.out.size))) hlt
                have HT := Lib.hid (all_take ids (fun s => decide (idE s = 0)) k (by rw [HX.out]; exact hlt))
                have HF := Lib.hid (all_stop ids (fun s => decide (idE s = 0)) k (by rw [HX.out]; exact hlt))
                have hzk : (ids.getD k ⟨#[]⟩).size < 1000000000 := HZ.out _ (by have := HX.out; simp [List.getD, show k < ids.length by omega])
                have hck := fun W => hcheck_c (ids.getD k ⟨#[]⟩) hzk W
                have hiv := idE_vals (ids.getD k ⟨#[]⟩)
                generalize ids.getD k ⟨#[]⟩ = id0 at *
                have HID := Lib.hid hiv
                clear hiv hzk
                generalize hE : idE id0 = e0 at *
                have HE0 := Lib.hid hE
                clear hE
                by_cases he0 : e0 = 0
                · subst he0
                  have HA2 : Hid ((ids.take (k + 1)).all (fun s => decide (idE s = 0)) = true) := by show _ = _; rw [HT.out, HA.out]; rfl
                  clear HT HF HA HID
                  go_wp2_with fail
                  refine (hck _).mono ?_
                  rintro e w5 ⟨rfl, hb5⟩
                  have HB5 : Hid (Below w1.heap.size w1 w5) := HB.out.trans (hb5.mono HB.out.size)
                  clear hb5 hck hcell
                  go_wp2_with fail
                  go_roundw
                  case rel => exact ⟨k + 1, by go_num, by omega, HB5, HA2⟩
                  case measure => simp [intOf]; omega
                · have heb : (e0 != 0) = true := by simpa using he0
                  have HR5 : Hid (r = 5) := by
                    show _ = _
                    rw [HC2.out, HF.out (decide_eq_false he0), if_pos rfl]
                  clear HT HF HA HID HC2
                  go_wp2_with fail
                  refine (hck _).mono ?_
                  rintro e w5 ⟨rfl, hb5⟩
                  go_wp2_with fail
                  go_ret
                  exact ⟨ret_int HR5.out.symm, HBA.out.trans ((HB.out.trans (hb5.mono HB.out.size)).mono HBA.out.size)⟩
              · have HAll : Hid (ids.all (fun s => decide (idE s = 0)) = true) := by
                  show _ = _
                  have := HA.out
                  rwa [show k = m by omega, List.take_of_length_le (by rw [HX.out]; exact Nat.le_refl _)] at this
                by_cases hbig : 4096 < m
                · have hd9 : decide ((m : Int) > 4096) = true := decide_eq_true (by omega)
                  have HR5 : Hid (r = 3) := by show _ = _; rw [HC2.out, HAll.out, if_neg (by simp), if_pos hbig]
                  clear HA HC2 HAll
                  go_wp2_with fail
                  go_ret
                  exact ⟨ret_int HR5.out.symm, HBA.out.trans (HB.out.mono HBA.out.size)⟩
                · have hd9 : decide ((m : Int) > 4096) = false := decide_eq_false (by omega)
                  have HR5 : Hid (r = 0) := by show _ = _; rw [HC2.out, HAll.out, if_neg (by simp), if_neg hbig]
                  clear HA HC2 HAll
                  go_wp2_with fail
                  go_ret
                  exact ⟨ret_int HR5.out.symm, HBA.out.trans (HB.out.mono HBA.out.size)⟩
          · have hb : ((m : Int) != (q : Int)) = true := by rw [bne_iff_ne]; omega
            have HR5 : Hid (r = 5) := by show _ = _; rw [HC.out, if_pos hmq2]
            have HDR : Hid (∀ q, Below w.heap.size w (w1.drewN q)) := fun q => below_drewN HBA.out q
            clear HC
            go_quiet ((go_at_call 195; exact Calls.quiet_of_same (hmy _)))
            clear g0 g1 g2
            go_wp2_with fail
            go_ret
            exact ⟨ret_int HR5.out.symm, (by first | exact HDR.out _ | (rw [World.drewN_drewN]; exact HDR.out _))⟩

set_option maxHeartbeats 4000000 in
set_option maxRecDepth 100000 in
theorem rmchk_c (sz ch : Int) (A : Option Addr) (m c B : Nat) (ids : List ByteArray) (w : World) (h1 : RdS w B A m ids) (hB : B ≤ w.heap.size) (hm : m < 1000000) (hz : ∀ s ∈ ids, s.size < 1000000000) :
    Calls Try.prog 175 #[manv sz ch A m c] w fun e w' => e = .returned (.int .i64 (chkM sz ch ids)) ∧ Below w.heap.size w w' := by
  have HX := Lib.hid (RdS.len h1)
  have HR := Lib.hid (Reads.more h1 hB)
  have HZ := Lib.hid hz
  clear h1 hB hz
  simp only [manv]
  by_cases h2 : ch < 1
  · have hc : chkM sz ch ids = 2 := if_pos (by omega)
    rw [hc]; clear hc
    have d0 : decide (ch < 1) = true := decide_eq_true (by omega)
    go_enter Try.func175, Try.ntmps175
    go_wp2
    go_ret
    exact ⟨rfl, (Below.refl _ _).alloc (Nat.le_refl _) _⟩
  · have d0 : decide (ch < 1) = false := decide_eq_false (by omega)
    by_cases h3 : 4096 < ch
    · have hc : chkM sz ch ids = 2 := if_pos (by omega)
      rw [hc]; clear hc
      have d1 : decide (ch > 4096) = true := decide_eq_true (by omega)
      go_enter Try.func175, Try.ntmps175
      go_wp2
      go_ret
      exact ⟨rfl, (Below.refl _ _).alloc (Nat.le_refl _) _⟩
    · have d1 : decide (ch > 4096) = false := decide_eq_false (by omega)
      by_cases h4 : sz < 0
      · have hc : chkM sz ch ids = 2 := if_pos (by omega)
        rw [hc]; clear hc
        have d2 : decide (sz < 0) = true := decide_eq_true (by omega)
        go_enter Try.func175, Try.ntmps175
        go_wp2
        go_ret
        exact ⟨rfl, (Below.refl _ _).alloc (Nat.le_refl _) _⟩
      · have d2 : decide (sz < 0) = false := decide_eq_false (by omega)
        by_cases h5 : 32768 < sz
        · have hc : chkM sz ch ids = 2 := if_pos (by omega)
          rw [hc]; clear hc
          have d3 : decide (sz > 32768) = true := decide_eq_true (by omega)
          go_enter Try.func175, Try.ntmps175
          go_wp2
          go_ret
          exact ⟨rfl, (Below.refl _ _).alloc (Nat.le_refl _) _⟩
        · have d3 : decide (sz > 32768) = false := decide_eq_false (by omega)
          obtain ⟨n, rfl⟩ := Int.eq_ofNat_of_zero_le (show 0 ≤ sz by omega)
          obtain ⟨z, rfl⟩ := Int.eq_ofNat_of_zero_le (show 0 ≤ ch by omega)
          have hmy := fun W => rmany_c n z (by omega) (by omega) (by omega) W
          generalize hr : chkM n z ids = r
          have HC : Hid (r = if m ≠ manyN n z then 5 else if ids.all (fun s => decide (idE s = 0)) = false then 5 else if 4096 < m then 3 else 0) := by
            show _ = _
            rw [← hr]; unfold chkM
            rw [if_neg (by omega), Int.toNat_natCast, Int.toNat_natCast, HX.out]
          clear hr
          have hmq : manyN n z ≤ 40000 := by
            unfold manyN
            exact Nat.le_trans (Nat.div_le_self _ _) (by omega)
          generalize manyN n z = q at *
          have g0 : (w.alloc (.cells #[.int .i64 (n : Int), .int .i64 (z : Int), .slice A m c] 201)).cell? ⟨w.heap.size, 0, none⟩ = some (.int .i64 (n : Int)) := by simp
          have g1 : (w.alloc (.cells #[.int .i64 (n : Int), .int .i64 (z : Int), .slice A m c] 201)).cell? ⟨w.heap.size, 1, none⟩ = some (.int .i64 (z : Int)) := by simp
          have g2 : (w.alloc (.cells #[.int .i64 (n : Int), .int .i64 (z : Int), .slice A m c] 201)).cell? ⟨w.heap.size, 2, none⟩ = some (.slice A m c) := by simp
          have HBA : Hid (Below w.heap.size w (w.alloc (.cells #[.int .i64 (n : Int), .int .i64 (z : Int), .slice A m c] 201))) := (Below.refl _ _).alloc (Nat.le_refl _) _
          have HWS : Hid (w.heap.size < (w.alloc (.cells #[.int .i64 (n : Int), .int .i64 (z : Int), .slice A m c] 201)).heap.size) := by show _ < _; simp
          go_enter Try.func175, Try.ntmps175
          go_wp2_with fail
          generalize w.alloc (.cells #[.int .i64 (n : Int), .int .i64 (z : Int), .slice A m c] 201) = w1 at *
          by_cases hmq2 : m = q
          · subst hmq2
            have hb : ((m : Int) != (m : Int)) = false := by simp
            have HC2 : Hid (r = if ids.all (fun s => decide (idE s = 0)) = false then 5 else if 4096 < m then 3 else 0) := by show _ = _; rw [HC.out, if_neg (by simp)]
            clear HC
            go_quiet ((go_at_call 191; exact Calls.quiet_of_same (hmy _)))
            have HG2 : Hid (∀ X, Below w1.heap.size w1 X → X.cell? ⟨w.heap.size, 2, none⟩ = some (.slice A m c)) := fun X hX => keepc hX g2
            have HDR : Hid (∀ q, Below w1.heap.size w1 (w1.drewN q)) := fun q => below_drewN (Below.refl _ _) q
            clear g0 g1 hmy
            go_wp2_with fail
            go_loopw [3] (fun vi wr => ∃ (k : Nat), vi = .int .i64 k ∧ k ≤ m ∧ Hid (Below w1.heap.size w1 wr) ∧ Hid ((ids.take k).all (fun s => decide (idE s = 0)) = true)) (fun vi _ => m - (intOf vi).toNat)
            case atStart => exact ⟨0, rfl, by omega, (by first | exact HDR.out _ | exact Below.refl _ _ | (rw [World.drewN_drewN]; exact HDR.out _)), rfl⟩
            case round =>
              clear HDR g2
              obtain ⟨k, rfl, hk, HB, HA⟩ := hrel
              have g3 := HG2.out wr HB.out
              by_cases hlt : k < m
              · obtain ⟨b1, o1, rfl, hb1, hcell⟩ := RdS.get (Reads.below HR.out (HBA.out.trans (HB.out.mono HBA.out.size))) hlt
                have HT := Lib.hid (all_take ids (fun s => decide (idE s = 0)) k (by rw [HX.out]; exact hlt))
                have HF := Lib.hid (all_stop ids (fun s => decide (idE s = 0)) k (by rw [HX.out]; exact hlt))
                have hzk : (ids.getD k ⟨#[]⟩).size < 1000000000 := HZ.out _ (by have := HX.out; simp [List.getD, show k < ids.length by omega])
                have hck := fun W => rhcheck_c (ids.getD k ⟨#[]⟩) hzk W
                have hiv := idE_vals (ids.getD k ⟨#[]⟩)
                generalize ids.getD k ⟨#[]⟩ = id0 at *
                have HID := Lib.hid hiv
                clear hiv hzk
                generalize hE : idE id0 = e0 at *
                have HE0 := Lib.hid hE
                clear hE
                by_cases he0 : e0 = 0
                · subst he0
                  have HA2 : Hid ((ids.take (k + 1)).all (fun s => decide (idE s = 0)) = true) := by show _ = _; rw [HT.out, HA.out]; rfl
                  clear HT HF HA HID
                  go_wp2_with fail
                  refine (hck _).mono ?_
                  rintro e w5 ⟨rfl, hb5⟩
                  have HB5 : Hid (Below w1.heap.size w1 w5) := HB.out.trans (hb5.mono HB.out.size)
                  clear hb5 hck hcell
                  go_wp2_with fail
                  go_roundw
                  case rel => exact ⟨k + 1, by go_num, by omega, HB5, HA2⟩
                  case measure => simp [intOf]; omega
                · have heb : (e0 != 0) = true := by simpa using he0
                  have HR5 : Hid (r = 5) := by
                    show _ = _
                    rw [HC2.out, HF.out (decide_eq_false he0), if_pos rfl]
                  clear HT HF HA HID HC2
                  go_wp2_with fail
                  refine (hck _).mono ?_
                  rintro e w5 ⟨rfl, hb5⟩
                  go_wp2_with fail
                  go_ret
                  exact ⟨ret_int HR5.out.symm, HBA.out.trans ((HB.out.trans (hb5.mono HB.out.size)).mono HBA.out.size)⟩
              · have HAll : Hid (ids.all (fun s => decide (idE s = 0)) = true) := by
                  show _ = _
                  have := HA.out
                  rwa [show k = m by omega, List.take_of_length_le (by rw [HX.out]; exact Nat.le_refl _)] at this
                by_cases hbig : 4096 < m
                · have hd9 : decide ((m : Int) > 4096) = true := decide_eq_true (by omega)
                  have HR5 : Hid (r = 3) := by show _ = _; rw [HC2.out, HAll.out, if_neg (by simp), if_pos hbig]
                  clear HA HC2 HAll
                  go_wp2_with fail
                  go_ret
                  exact ⟨ret_int HR5.out.symm, HBA.out.trans (HB.out.mono HBA.out.size)⟩
                · have hd9 : decide ((m : Int) > 4096) = false := decide_eq_false (by omega)
                  have HR5 : Hid (r = 0) := by show _ = _; rw [HC2.out, HAll.out, if_neg (by simp), if_neg hbig]
                  clear HA HC2 HAll
                  go_wp2_with fail
                  go_ret
                  exact ⟨ret_int HR5.out.symm, HBA.out.trans (HB.out.mono HBA.out.size)⟩
          · have hb : ((m : Int) != (q : Int)) = true := by rw [bne_iff_ne]; omega
            have HR5 : Hid (r = 5) := by show _ = _; rw [HC.out, if_pos hmq2]
            have HDR : Hid (∀ q, Below w.heap.size w (w1.drewN q)) := fun q => below_drewN HBA.out q
            clear HC
            go_quiet ((go_at_call 191; exact Calls.quiet_of_same (hmy _)))
            clear g0 g1 g2
            go_wp2_with fail
            go_ret
            exact ⟨ret_int HR5.out.symm, (by first | exact HDR.out _ | (rw [World.drewN_drewN]; exact HDR.out _))⟩
end Go.Proofs.Ytmhkalalcmkpbaa

namespace Go.Proofs.Ytmhkalalcmkpbaa
open Go.RowKit
set_option linter.unusedVariables false
set_option linter.unusedSimpArgs false

/-- The manifest of bytes, or the error. -/
def readM (s : ByteArray) : (Int × Int × List ByteArray) × Int :=
  if doneE (rdLs (rdN (rdN (s, 0)).2).2).2 ≠ 0 then ((0, 0, []), doneE (rdLs (rdN (rdN (s, 0)).2).2).2) else
  if chkM (rdN (s, 0)).1 (rdN (rdN (s, 0)).2).1 (rdLs (rdN (rdN (s, 0)).2).2).1 ≠ 0 then ((0, 0, []), chkM (rdN (s, 0)).1 (rdN (rdN (s, 0)).2).1 (rdLs (rdN (rdN (s, 0)).2).2).1) else
  ((((rdN (s, 0)).1 : Int), ((rdN (rdN (s, 0)).2).1 : Int), (rdLs (rdN (rdN (s, 0)).2).2).1), 0)
theorem rdT_tsize (st : ByteArray × Int) : (rdT st).1.size ≤ st.1.size := by
  unfold rdT
  split
  · exact Nat.zero_le _
  · split
    · exact Nat.zero_le _
    · unfold textR
      split
      · exact Nat.zero_le _
      · split
        · exact Nat.zero_le _
        · split
          · exact Nat.zero_le _
          · show (st.1.extract _ _).size ≤ _
            rw [ByteArray.size_extract]; omega
theorem rdTs_each : ∀ (n : Nat) (st : ByteArray × Int), ∀ t ∈ (rdTs n st).1, t.size ≤ st.1.size := by
  intro n
  induction n with
  | zero => intro st t ht; simp [rdTs] at ht
  | succ n ih =>
    intro st t ht
    by_cases h : st.2 = 0
    · rw [rdTs_step _ _ h] at ht
      rcases List.mem_cons.1 ht with rfl | ht
      · exact rdT_tsize st
      · exact Nat.le_trans (ih _ t ht) (rdT_size st)
    · rw [rdTs_stop _ _ h] at ht; simp at ht
theorem rdLs_each (st : ByteArray × Int) : ∀ t ∈ (rdLs st).1, t.size ≤ st.1.size := by
  intro t ht
  unfold rdLs at ht
  split at ht
  · simp at ht
  · split at ht
    · simp at ht
    · split at ht
      · simp at ht
      · split at ht
        · simp at ht
        · exact Nat.le_trans (rdTs_each _ _ t ht) (rdN_size st)
/-- A manifest came back, its ids in the call's own slice. -/
def RetM (w0 : Nat) (w' : World) (e : Ending) (r : (Int × Int × List ByteArray) × Int) : Prop := ∃ A c, e = .returned (.tuple #[.agg #[.int .i64 r.1.1, .int .i64 r.1.2.1, .slice A r.1.2.2.length c], .int .i64 r.2]) ∧ r.1.2.2.length ≤ c ∧ OwnS w' w0 (.slice A r.1.2.2.length c) r.1.2.2
theorem res_M (a : Act) (w : World) (g : Nat) (x y : Int) (v : Value) (e : Int) (h1 : a.tmps.getD 2 undef = .pointer (some ⟨g, 0, none⟩)) (h2 : a.tmps.getD 3 undef = .int .i64 e)
    (c0 : w.cell? ⟨g, 0, none⟩ = some (.int .i64 x)) (c1 : w.cell? ⟨g, 1, none⟩ = some (.int .i64 y)) (c2 : w.cell? ⟨g, 2, none⟩ = some v) :
    (results Try.f156 a.tmps).run Try.prog w = .ok (.tuple #[.agg #[.int .i64 x, .int .i64 y, v], .int .i64 e]) w := by
  rw [results_cell_tmp (p := 2) (u := 3) (ty := 201) rfl, h1, h2]
  go_simp
theorem res_MR (a : Act) (w : World) (g : Nat) (x y : Int) (v : Value) (e : Int) (h1 : a.tmps.getD 2 undef = .pointer (some ⟨g, 0, none⟩)) (h2 : a.tmps.getD 3 undef = .int .i64 e)
    (c0 : w.cell? ⟨g, 0, none⟩ = some (.int .i64 x)) (c1 : w.cell? ⟨g, 1, none⟩ = some (.int .i64 y)) (c2 : w.cell? ⟨g, 2, none⟩ = some v) :
    (results Try.f154 a.tmps).run Try.prog w = .ok (.tuple #[.agg #[.int .i64 x, .int .i64 y, v], .int .i64 e]) w := by
  rw [results_cell_tmp (p := 2) (u := 3) (ty := 201) rfl, h1, h2]
  go_simp
set_option maxHeartbeats 4000000 in
set_option maxRecDepth 100000 in
theorem mread_c (s : ByteArray) (hs : s.size < 1000000000) (w : World) :
    Calls Try.prog 156 #[.string s] w fun e w' => RetM w.heap.size w' e (readM s) ∧ Below w.heap.size w w' := by
  have hn1 := fun W p (h : Rdr W p s 0) => rnum_read p s 0 W h (by omega)
  have hz1 := rdN_size (s, 0)
  have hrm0 : readM s = readM s := rfl
  conv at hrm0 => rhs; unfold readM
  have HRM := Lib.hid hrm0
  clear hrm0
  simp only at hz1
  generalize hrm : readM s = r at *
  clear hrm
  generalize rdN (s, 0) = q1 at *
  obtain ⟨n1, s1, e1⟩ := q1
  simp only at hn1 hz1 HRM
  have hn2 := fun W p (h : Rdr W p s1 e1) => rnum_read p s1 e1 W h (by omega)
  have hz2 := rdN_size (s1, e1)
  simp only at hz2
  generalize rdN (s1, e1) = q2 at *
  obtain ⟨n2, s2, e2⟩ := q2
  simp only at hn2 hz2 HRM
  have hn3 := fun W p (h : Rdr W p s2 e2) => rlist_read p s2 e2 W h (by omega)
  have hz3 := rdLs_size (s2, e2)
  have HLN := Lib.hid (rdLs_len (s2, e2))
  have HEA : Hid (∀ t ∈ (rdLs (s2, e2)).1, t.size < 1000000000) := fun t ht => by have := rdLs_each (s2, e2) t ht; simp only at this; omega
  simp only at hz3
  generalize rdLs (s2, e2) = q3 at *
  obtain ⟨ids, s3, e3⟩ := q3
  simp only at hn3 hz3 HRM HLN HEA
  have hdn := fun W p (h : Rdr W p s3 e3) => (done_c p s3 e3 W h).mono fun r w' (g : _ ∧ w' = W) => (⟨g.1, g.2.symm⟩ : _ ∧ W = w')
  have hck := fun W A c (h : RdS W W.heap.size A ids.length ids) => mchk_c (n1 : Int) (n2 : Int) A ids.length c W.heap.size ids W h (Nat.le_refl _) (by have := HLN.out; omega) HEA.out
  generalize doneE (s3, e3) = d at *
  generalize chkM (n1 : Int) (n2 : Int) ids = ck at *
  go_enter Try.func156, Try.ntmps156
  go_wp2_with fail
  have HG : Hid (∀ X, Below (w.heap.size + 1) (w.alloc (.cells #[.int .i64 0, .int .i64 0, .slice none 0 0] 201)) X → X.cell? ⟨w.heap.size, 0, none⟩ = some (.int .i64 0) ∧ X.cell? ⟨w.heap.size, 1, none⟩ = some (.int .i64 0) ∧ X.cell? ⟨w.heap.size, 2, none⟩ = some (.slice none 0 0) ∧
      X.frozen? ⟨w.heap.size, 0, none⟩ = false ∧ X.frozen? ⟨w.heap.size, 1, none⟩ = false ∧ X.frozen? ⟨w.heap.size, 2, none⟩ = false) := fun X hX =>
    ⟨(hX.cell (p := ⟨w.heap.size, 0, none⟩) (Nat.lt_succ_self _)).trans (by simp), (hX.cell (p := ⟨w.heap.size, 1, none⟩) (Nat.lt_succ_self _)).trans (by simp), (hX.cell (p := ⟨w.heap.size, 2, none⟩) (Nat.lt_succ_self _)).trans (by simp),
     (hX.frozen (p := ⟨w.heap.size, 0, none⟩) (Nat.lt_succ_self _)).trans (by simp), (hX.frozen (p := ⟨w.heap.size, 1, none⟩) (Nat.lt_succ_self _)).trans (by simp), (hX.frozen (p := ⟨w.heap.size, 2, none⟩) (Nat.lt_succ_self _)).trans (by simp)⟩
  have HZ1 : Hid ((w.alloc (.cells #[.int .i64 0, .int .i64 0, .slice none 0 0] 201)).heap.size = w.heap.size + 1) := by show _ = _; simp
  have HBW : Hid (Below w.heap.size w (w.alloc (.cells #[.int .i64 0, .int .i64 0, .slice none 0 0] 201))) := (Below.refl _ _).alloc (Nat.le_refl _) _
  generalize hw1 : w.alloc (.cells #[.int .i64 0, .int .i64 0, .slice none 0 0] 201) = w1 at *
  clear hw1
  have HW : Hid (∀ X, Below w1.heap.size w1 X → Below w.heap.size w X) := fun X hX => HBW.out.trans (hX.mono HBW.out.size)
  have HG2 : Hid (∀ X, Below w1.heap.size w1 X → X.cell? ⟨w.heap.size, 0, none⟩ = some (.int .i64 0) ∧ X.cell? ⟨w.heap.size, 1, none⟩ = some (.int .i64 0) ∧ X.cell? ⟨w.heap.size, 2, none⟩ = some (.slice none 0 0) ∧
      X.frozen? ⟨w.heap.size, 0, none⟩ = false ∧ X.frozen? ⟨w.heap.size, 1, none⟩ = false ∧ X.frozen? ⟨w.heap.size, 2, none⟩ = false) := fun X hX => HG.out X (hX.mono (Nat.le_of_eq HZ1.out.symm))
  have HLT : Hid (w.heap.size < w1.heap.size) := by show _ < _; rw [HZ1.out]; exact Nat.lt_succ_self _
  clear HG
  refine (new_c s w1).mono ?_
  rintro e w2 ⟨rfl, rfl⟩
  have hr2 := Rdr.start s w1
  have HB2 : Hid (Below w1.heap.size w1 (w1.alloc (.cells #[.string s, .int .i64 0] 177))) := (Below.refl _ _).alloc (Nat.le_refl _) _
  generalize w1.alloc (.cells #[.string s, .int .i64 0] 177) = w2 at *
  have h1 := hn1 w2 _ hr2
  clear hn1 hr2
  go_wp2_with fail
  refine h1.mono ?_
  rintro e w3 ⟨rfl, hr3, hg3⟩
  have HB3 : Hid (Below w1.heap.size w1 w3) := HB2.out.trans (below_of_grown hg3 HB2.out.size (Nat.le_refl _))
  have h2 := hn2 w3 _ hr3
  clear hn2 hr3 hg3 HB2 h1
  go_wp2_with fail
  refine h2.mono ?_
  rintro e w4 ⟨rfl, hr4, hg4⟩
  have HB4 : Hid (Below w1.heap.size w1 w4) := HB3.out.trans (below_of_grown hg4 HB3.out.size (Nat.le_refl _))
  have h3 := hn3 w4 _ hr4
  clear hn3 hr4 hg4 HB3 h2
  go_wp2_with fail
  refine h3.mono ?_
  rintro e w5 ⟨⟨v, rfl, ho5⟩, hr5, hg5⟩
  obtain ⟨A, c, rfl, hcc, hrd5⟩ := OwnS.form ho5
  have HCC := Lib.hid hcc
  have HB5 : Hid (Below w1.heap.size w1 w5) := HB4.out.trans (below_of_grown hg5 HB4.out.size (Nat.le_refl _))
  have HO6 : Hid (OwnS (w5.alloc (.cells #[.int .i64 (n1 : Int), .int .i64 (n2 : Int), .slice A ids.length c] 201)) w1.heap.size (.slice A ids.length c) ids) := (World.ownsRow.mono ho5 HB4.out.size).alloc _
  have HRD6 : Hid (RdS (w5.alloc (.cells #[.int .i64 (n1 : Int), .int .i64 (n2 : Int), .slice A ids.length c] 201)) (w5.alloc (.cells #[.int .i64 (n1 : Int), .int .i64 (n2 : Int), .slice A ids.length c] 201)).heap.size A ids.length ids) := Reads.more (Reads.alloc hrd5 (Nat.le_refl _) _) (by simp)
  have HB6 : Hid (Below w1.heap.size w1 (w5.alloc (.cells #[.int .i64 (n1 : Int), .int .i64 (n2 : Int), .slice A ids.length c] 201))) := HB5.out.alloc HB5.out.size _
  have hr6 := hr5.alloc (.cells #[.int .i64 (n1 : Int), .int .i64 (n2 : Int), .slice A ids.length c] 201)
  have g6a : (w5.alloc (.cells #[.int .i64 (n1 : Int), .int .i64 (n2 : Int), .slice A ids.length c] 201)).cell? ⟨w5.heap.size, 0, none⟩ = some (.int .i64 (n1 : Int)) := by simp
  have g6b : (w5.alloc (.cells #[.int .i64 (n1 : Int), .int .i64 (n2 : Int), .slice A ids.length c] 201)).cell? ⟨w5.heap.size, 1, none⟩ = some (.int .i64 (n2 : Int)) := by simp
  have g6c : (w5.alloc (.cells #[.int .i64 (n1 : Int), .int .i64 (n2 : Int), .slice A ids.length c] 201)).cell? ⟨w5.heap.size, 2, none⟩ = some (.slice A ids.length c) := by simp
  clear hcc ho5 hr5 hg5 hrd5 h3 HB4 HB5
  go_wp2_with fail
  generalize w5.alloc (.cells #[.int .i64 (n1 : Int), .int .i64 (n2 : Int), .slice A ids.length c] 201) = w6 at *
  refine (hdn w6 _ hr6).mono ?_
  rintro e w7 ⟨rfl, rfl⟩
  clear hdn hr6
  by_cases hd : d = 0
  · subst hd
    have HRM2 : Hid (r = if ck ≠ 0 then ((0, 0, []), ck) else (((n1 : Int), (n2 : Int), ids), 0)) := by show _ = _; rw [HRM.out, if_neg (by simp)]
    clear HRM
    go_wp2_with fail
    refine (hck w6 A c HRD6.out).mono ?_
    rintro e w8 ⟨rfl, hb8⟩
    have HB8 : Hid (Below w1.heap.size w1 w8) := HB6.out.trans (hb8.mono HB6.out.size)
    have g8a := keepc hb8 g6a
    have g8b := keepc hb8 g6b
    have g8c := keepc hb8 g6c
    have HO8 : Hid (OwnS w8 w1.heap.size (.slice A ids.length c) ids) := own_below HO6.out hb8
    clear hb8 g6a g6b g6c hck
    by_cases hk : ck = 0
    · subst hk
      obtain ⟨x0, x1, x2, x3, x4, x5⟩ := HG2.out w8 HB8.out
      have HF : Hid (r = (((n1 : Int), (n2 : Int), ids), 0)) := by show _ = _; rw [HRM2.out, if_neg (by simp)]
      have HBF : Hid (∀ u1 u2 u3, Below w.heap.size w (((w8.setCell ⟨w.heap.size, 0, none⟩ u1).setCell ⟨w.heap.size, 1, none⟩ u2).setCell ⟨w.heap.size, 2, none⟩ u3)) := fun u1 u2 u3 => (((HW.out _ HB8.out).setCell (Nat.le_refl _) _).setCell (Nat.le_refl _) _).setCell (Nat.le_refl _) _
      have HOF : Hid (∀ u1 u2 u3, OwnS (((w8.setCell ⟨w.heap.size, 0, none⟩ u1).setCell ⟨w.heap.size, 1, none⟩ u2).setCell ⟨w.heap.size, 2, none⟩ u3) w.heap.size (.slice A ids.length c) ids) := fun u1 u2 u3 =>
        World.ownsRow.mono (own_grown (own_grown (own_grown HO8.out (grown_cell _ w.heap.size 0 u1) HLT.out) (grown_cell _ w.heap.size 1 u2) HLT.out) (grown_cell _ w.heap.size 2 u3) HLT.out) (Nat.le_of_lt HLT.out)
      clear HRM2 HO8
      go_wp2_with fail
      refine bodyPost_ret (res_M _ _ w.heap.size (n1 : Int) (n2 : Int) (.slice A ids.length c) 0 rfl rfl ?_ ?_ ?_) rfl ?_
      · go_simp
      · go_simp
      · go_simp
      · rw [HF.out]
        exact ⟨⟨_, _, rfl, HCC.out, HOF.out _ _ _⟩, HBF.out _ _ _⟩
    · have hkb : (ck != 0) = true := by simpa using hk
      obtain ⟨x0, x1, x2, x3, x4, x5⟩ := HG2.out w8 HB8.out
      have HF : Hid (r = ((0, 0, []), ck)) := by show _ = _; rw [HRM2.out, if_pos hk]
      have HBF : Hid (∀ u1 u2 u3, Below w.heap.size w (((w8.setCell ⟨w.heap.size, 0, none⟩ u1).setCell ⟨w.heap.size, 1, none⟩ u2).setCell ⟨w.heap.size, 2, none⟩ u3)) := fun u1 u2 u3 => (((HW.out _ HB8.out).setCell (Nat.le_refl _) _).setCell (Nat.le_refl _) _).setCell (Nat.le_refl _) _
      go_wp2_with fail
      refine bodyPost_ret (res_M _ _ w.heap.size 0 0 (.slice none 0 0) ck rfl rfl ?_ ?_ ?_) rfl ?_
      · go_simp
      · go_simp
      · go_simp
      · rw [HF.out]
        exact ⟨⟨none, 0, rfl, Nat.zero_le _, OwnS.nil _ _⟩, HBF.out _ _ _⟩
  · have hdb : (d != 0) = true := by simpa using hd
    have hdb2 : (d == 0) = false := by simpa using hd
    clear hck
    obtain ⟨x0, x1, x2, x3, x4, x5⟩ := HG2.out w6 HB6.out
    have HF : Hid (r = ((0, 0, []), d)) := by show _ = _; rw [HRM.out, if_pos hd]
    have HBF : Hid (∀ u1 u2 u3, Below w.heap.size w (((w6.setCell ⟨w.heap.size, 0, none⟩ u1).setCell ⟨w.heap.size, 1, none⟩ u2).setCell ⟨w.heap.size, 2, none⟩ u3)) := fun u1 u2 u3 => (((HW.out _ HB6.out).setCell (Nat.le_refl _) _).setCell (Nat.le_refl _) _).setCell (Nat.le_refl _) _
    go_wp2_with fail
    refine bodyPost_ret (res_M _ _ w.heap.size 0 0 (.slice none 0 0) d rfl rfl ?_ ?_ ?_) rfl ?_
    · go_simp
    · go_simp
    · go_simp
    · rw [HF.out]
      exact ⟨⟨none, 0, rfl, Nat.zero_le _, OwnS.nil _ _⟩, HBF.out _ _ _⟩
end Go.Proofs.Ytmhkalalcmkpbaa

namespace Go.Proofs.Ytmhkalalcmkpbaa
open Go.RowKit
set_option linter.unusedVariables false
set_option linter.unusedSimpArgs false

set_option maxHeartbeats 4000000 in
set_option maxRecDepth 100000 in
theorem rmread_c (s : ByteArray) (hs : s.size < 1000000000) (w : World) :
    Calls Try.prog 154 #[.string s] w fun e w' => RetM w.heap.size w' e (readM s) ∧ Below w.heap.size w w' := by
  have hn1 := fun W => rrnum_c s 0 (by omega) W
  have hz1 := rdN_size (s, 0)
  have hrm0 : readM s = readM s := rfl
  conv at hrm0 => rhs; unfold readM
  have HRM := Lib.hid hrm0
  clear hrm0
  simp only at hz1
  generalize hrm : readM s = r at *
  clear hrm
  generalize rdN (s, 0) = q1 at *
  obtain ⟨n1, s1, e1⟩ := q1
  simp only at hn1 hz1 HRM
  have hn2 := fun W => rrnum_c s1 e1 (by omega) W
  have hz2 := rdN_size (s1, e1)
  simp only at hz2
  generalize rdN (s1, e1) = q2 at *
  obtain ⟨n2, s2, e2⟩ := q2
  simp only at hn2 hz2 HRM
  have hn3 := fun W => rrlist_c s2 e2 (by omega) W
  have hz3 := rdLs_size (s2, e2)
  have HLN := Lib.hid (rdLs_len (s2, e2))
  have HEA : Hid (∀ t ∈ (rdLs (s2, e2)).1, t.size < 1000000000) := fun t ht => by have := rdLs_each (s2, e2) t ht; simp only at this; omega
  simp only at hz3
  generalize rdLs (s2, e2) = q3 at *
  obtain ⟨ids, s3, e3⟩ := q3
  simp only at hn3 hz3 HRM HLN HEA
  have hdn := fun W => rdone_c s3 e3 W
  have hck := fun W A c (h : RdS W W.heap.size A ids.length ids) => rmchk_c (n1 : Int) (n2 : Int) A ids.length c W.heap.size ids W h (Nat.le_refl _) (by have := HLN.out; omega) HEA.out
  generalize doneE (s3, e3) = d at *
  generalize chkM (n1 : Int) (n2 : Int) ids = ck at *
  go_enter Try.func154, Try.ntmps154
  go_wp2_with fail
  have HG : Hid (∀ X, Below (w.heap.size + 1) (w.alloc (.cells #[.int .i64 0, .int .i64 0, .slice none 0 0] 201)) X → X.cell? ⟨w.heap.size, 0, none⟩ = some (.int .i64 0) ∧ X.cell? ⟨w.heap.size, 1, none⟩ = some (.int .i64 0) ∧ X.cell? ⟨w.heap.size, 2, none⟩ = some (.slice none 0 0) ∧
      X.frozen? ⟨w.heap.size, 0, none⟩ = false ∧ X.frozen? ⟨w.heap.size, 1, none⟩ = false ∧ X.frozen? ⟨w.heap.size, 2, none⟩ = false) := fun X hX =>
    ⟨(hX.cell (p := ⟨w.heap.size, 0, none⟩) (Nat.lt_succ_self _)).trans (by simp), (hX.cell (p := ⟨w.heap.size, 1, none⟩) (Nat.lt_succ_self _)).trans (by simp), (hX.cell (p := ⟨w.heap.size, 2, none⟩) (Nat.lt_succ_self _)).trans (by simp),
     (hX.frozen (p := ⟨w.heap.size, 0, none⟩) (Nat.lt_succ_self _)).trans (by simp), (hX.frozen (p := ⟨w.heap.size, 1, none⟩) (Nat.lt_succ_self _)).trans (by simp), (hX.frozen (p := ⟨w.heap.size, 2, none⟩) (Nat.lt_succ_self _)).trans (by simp)⟩
  have HZ1 : Hid ((w.alloc (.cells #[.int .i64 0, .int .i64 0, .slice none 0 0] 201)).heap.size = w.heap.size + 1) := by show _ = _; simp
  have HBW : Hid (Below w.heap.size w (w.alloc (.cells #[.int .i64 0, .int .i64 0, .slice none 0 0] 201))) := (Below.refl _ _).alloc (Nat.le_refl _) _
  generalize hw1 : w.alloc (.cells #[.int .i64 0, .int .i64 0, .slice none 0 0] 201) = w1 at *
  clear hw1
  have HW : Hid (∀ X, Below w1.heap.size w1 X → Below w.heap.size w X) := fun X hX => HBW.out.trans (hX.mono HBW.out.size)
  have HG2 : Hid (∀ X, Below w1.heap.size w1 X → X.cell? ⟨w.heap.size, 0, none⟩ = some (.int .i64 0) ∧ X.cell? ⟨w.heap.size, 1, none⟩ = some (.int .i64 0) ∧ X.cell? ⟨w.heap.size, 2, none⟩ = some (.slice none 0 0) ∧
      X.frozen? ⟨w.heap.size, 0, none⟩ = false ∧ X.frozen? ⟨w.heap.size, 1, none⟩ = false ∧ X.frozen? ⟨w.heap.size, 2, none⟩ = false) := fun X hX => HG.out X (hX.mono (Nat.le_of_eq HZ1.out.symm))
  have HLT : Hid (w.heap.size < w1.heap.size) := by show _ < _; rw [HZ1.out]; exact Nat.lt_succ_self _
  clear HG
  refine (hn1 w1).mono ?_
  rintro e w2 ⟨rfl, hb2⟩
  have HB2 : Hid (Below w1.heap.size w1 (w2.alloc (.cells #[.string s1, .int .i64 e1] 127))) := hb2.alloc hb2.size _
  have hr2 : Rdr (w2.alloc (.cells #[.string s1, .int .i64 e1] 127)) w2.heap.size s1 e1 := Rdr.make _ _ _ _
  have HPL : Hid (w1.heap.size ≤ w2.heap.size) := hb2.size
  have HPL2 : Hid (w2.heap.size < (w2.alloc (.cells #[.string s1, .int .i64 e1] 127)).heap.size) := hr2.lt
  have c0 := hr2.text
  have c1 := hr2.err
  clear hn1 hb2
  go_wp2_with fail
  generalize w2.alloc (.cells #[.string s1, .int .i64 e1] 127) = w3 at *
  generalize hp : w2.heap.size = p at *
  clear hp
  refine (hn2 w3).mono ?_
  rintro e w4 ⟨rfl, hb4⟩
  have hr4 := hr2.grown hb4 hr2.lt
  have HR4 := Lib.hid ((hr4.set0 s2).set1 e2)
  have HB4 : Hid (Below w1.heap.size w1 ((w4.setCell ⟨p, 0, none⟩ (.string s2)).setCell ⟨p, 1, none⟩ (.int .i64 e2))) := ((HB2.out.trans (hb4.mono HB2.out.size)).setCell HPL.out _).setCell HPL.out _
  have k0 := hr4.text
  have k1 := hr4.err
  have k2 := hr4.free0
  have k3 := hr4.free1
  have HP4 : Hid (p < ((w4.setCell ⟨p, 0, none⟩ (.string s2)).setCell ⟨p, 1, none⟩ (.int .i64 e2)).heap.size) := HR4.out.lt
  have c0' := HR4.out.text
  have c1' := HR4.out.err
  clear hn2 hb4 hr2 hr4 c0 c1 HB2
  go_wp2_with fail
  clear k0 k1 k2 k3
  generalize (w4.setCell ⟨p, 0, none⟩ (.string s2)).setCell ⟨p, 1, none⟩ (.int .i64 e2) = w5 at *
  refine (hn3 w5).mono ?_
  rintro e w6 ⟨⟨v, rfl, ho6⟩, hb6⟩
  obtain ⟨A, c, rfl, hcc, hrd6⟩ := OwnS.form ho6
  have HCC := Lib.hid hcc
  have hr6 := HR4.out.grown hb6 HR4.out.lt
  have HR7 := Lib.hid (((hr6.set0 s3).set1 e3).alloc (.cells #[.int .i64 (n1 : Int), .int .i64 (n2 : Int), .slice A ids.length c] 201))
  have HB7 : Hid (Below w1.heap.size w1 (((w6.setCell ⟨p, 0, none⟩ (.string s3)).setCell ⟨p, 1, none⟩ (.int .i64 e3)).alloc (.cells #[.int .i64 (n1 : Int), .int .i64 (n2 : Int), .slice A ids.length c] 201))) := (((HB4.out.trans (hb6.mono HB4.out.size)).setCell HPL.out _).setCell HPL.out _).alloc (by have h1 := HB4.out.size; have h2 := hb6.size; simp [World.setCell]; omega) _
  have ho7 := own_grown (own_grown ho6 (grown_cell _ p 0 (.string s3)) HP4.out) (grown_cell _ p 1 (.int .i64 e3)) HP4.out
  have HO7 : Hid (OwnS (((w6.setCell ⟨p, 0, none⟩ (.string s3)).setCell ⟨p, 1, none⟩ (.int .i64 e3)).alloc (.cells #[.int .i64 (n1 : Int), .int .i64 (n2 : Int), .slice A ids.length c] 201)) w1.heap.size (.slice A ids.length c) ids) := (World.ownsRow.mono ho7 HB4.out.size).alloc _
  have k0 := hr6.text
  have k1 := hr6.err
  have k2 := hr6.free0
  have k3 := hr6.free1
  have g7a : (((w6.setCell ⟨p, 0, none⟩ (.string s3)).setCell ⟨p, 1, none⟩ (.int .i64 e3)).alloc (.cells #[.int .i64 (n1 : Int), .int .i64 (n2 : Int), .slice A ids.length c] 201)).cell? ⟨w6.heap.size, 0, none⟩ = some (.int .i64 (n1 : Int)) := by go_simp
  have g7b : (((w6.setCell ⟨p, 0, none⟩ (.string s3)).setCell ⟨p, 1, none⟩ (.int .i64 e3)).alloc (.cells #[.int .i64 (n1 : Int), .int .i64 (n2 : Int), .slice A ids.length c] 201)).cell? ⟨w6.heap.size, 1, none⟩ = some (.int .i64 (n2 : Int)) := by go_simp
  have g7c : (((w6.setCell ⟨p, 0, none⟩ (.string s3)).setCell ⟨p, 1, none⟩ (.int .i64 e3)).alloc (.cells #[.int .i64 (n1 : Int), .int .i64 (n2 : Int), .slice A ids.length c] 201)).cell? ⟨w6.heap.size, 2, none⟩ = some (.slice A ids.length c) := by go_simp
  have c7 := HR7.out.text
  have c7' := HR7.out.err
  clear hn3 hb6 hcc hrd6 hr6 ho6 ho7 c0' c1' HR4 HB4
  go_wp2_with fail
  clear k0 k1 k2 k3
  generalize ((w6.setCell ⟨p, 0, none⟩ (.string s3)).setCell ⟨p, 1, none⟩ (.int .i64 e3)).alloc (.cells #[.int .i64 (n1 : Int), .int .i64 (n2 : Int), .slice A ids.length c] 201) = w7 at *
  refine (hdn w7).mono ?_
  rintro e w9 ⟨rfl, hb9⟩
  have g6a := keepc hb9 g7a
  have g6b := keepc hb9 g7b
  have g6c := keepc hb9 g7c
  have HB6 : Hid (Below w1.heap.size w1 w9) := HB7.out.trans (hb9.mono HB7.out.size)
  have HO6 : Hid (OwnS w9 w1.heap.size (.slice A ids.length c) ids) := own_below HO7.out hb9
  obtain ⟨A9, c9, hv9, _, hrd9⟩ := OwnS.form HO6.out
  have HRD6 : Hid (RdS w9 w9.heap.size A ids.length ids) := by
    injection hv9 with h1 h2 h3
    show RdS _ _ _ _ _
    rw [h1]; exact hrd9
  clear hdn hb9 g7a g7b g7c c7 c7' HR7 HB7 HO7 hv9 hrd9
  by_cases hd : d = 0
  · subst hd
    have HRM2 : Hid (r = if ck ≠ 0 then ((0, 0, []), ck) else (((n1 : Int), (n2 : Int), ids), 0)) := by show _ = _; rw [HRM.out, if_neg (by simp)]
    clear HRM
    go_wp2_with fail
    refine (hck w9 A c HRD6.out).mono ?_
    rintro e w8 ⟨rfl, hb8⟩
    have HB8 : Hid (Below w1.heap.size w1 w8) := HB6.out.trans (hb8.mono HB6.out.size)
    have g8a := keepc hb8 g6a
    have g8b := keepc hb8 g6b
    have g8c := keepc hb8 g6c
    have HO8 : Hid (OwnS w8 w1.heap.size (.slice A ids.length c) ids) := own_below HO6.out hb8
    clear hb8 g6a g6b g6c hck
    by_cases hk : ck = 0
    · subst hk
      obtain ⟨x0, x1, x2, x3, x4, x5⟩ := HG2.out w8 HB8.out
      have HF : Hid (r = (((n1 : Int), (n2 : Int), ids), 0)) := by show _ = _; rw [HRM2.out, if_neg (by simp)]
      have HBF : Hid (∀ u1 u2 u3, Below w.heap.size w (((w8.setCell ⟨w.heap.size, 0, none⟩ u1).setCell ⟨w.heap.size, 1, none⟩ u2).setCell ⟨w.heap.size, 2, none⟩ u3)) := fun u1 u2 u3 => (((HW.out _ HB8.out).setCell (Nat.le_refl _) _).setCell (Nat.le_refl _) _).setCell (Nat.le_refl _) _
      have HOF : Hid (∀ u1 u2 u3, OwnS (((w8.setCell ⟨w.heap.size, 0, none⟩ u1).setCell ⟨w.heap.size, 1, none⟩ u2).setCell ⟨w.heap.size, 2, none⟩ u3) w.heap.size (.slice A ids.length c) ids) := fun u1 u2 u3 =>
        World.ownsRow.mono (own_grown (own_grown (own_grown HO8.out (grown_cell _ w.heap.size 0 u1) HLT.out) (grown_cell _ w.heap.size 1 u2) HLT.out) (grown_cell _ w.heap.size 2 u3) HLT.out) (Nat.le_of_lt HLT.out)
      clear HRM2 HO8
      go_wp2_with fail
      refine bodyPost_ret (res_MR _ _ w.heap.size (n1 : Int) (n2 : Int) (.slice A ids.length c) 0 rfl rfl ?_ ?_ ?_) rfl ?_
      · go_simp
      · go_simp
      · go_simp
      · rw [HF.out]
        exact ⟨⟨_, _, rfl, HCC.out, HOF.out _ _ _⟩, HBF.out _ _ _⟩
    · have hkb : (ck != 0) = true := by simpa using hk
      obtain ⟨x0, x1, x2, x3, x4, x5⟩ := HG2.out w8 HB8.out
      have HF : Hid (r = ((0, 0, []), ck)) := by show _ = _; rw [HRM2.out, if_pos hk]
      have HBF : Hid (∀ u1 u2 u3, Below w.heap.size w (((w8.setCell ⟨w.heap.size, 0, none⟩ u1).setCell ⟨w.heap.size, 1, none⟩ u2).setCell ⟨w.heap.size, 2, none⟩ u3)) := fun u1 u2 u3 => (((HW.out _ HB8.out).setCell (Nat.le_refl _) _).setCell (Nat.le_refl _) _).setCell (Nat.le_refl _) _
      go_wp2_with fail
      refine bodyPost_ret (res_MR _ _ w.heap.size 0 0 (.slice none 0 0) ck rfl rfl ?_ ?_ ?_) rfl ?_
      · go_simp
      · go_simp
      · go_simp
      · rw [HF.out]
        exact ⟨⟨none, 0, rfl, Nat.zero_le _, OwnS.nil _ _⟩, HBF.out _ _ _⟩
  · have hdb : (d != 0) = true := by simpa using hd
    have hdb2 : (d == 0) = false := by simpa using hd
    clear hck
    obtain ⟨x0, x1, x2, x3, x4, x5⟩ := HG2.out w9 HB6.out
    have HF : Hid (r = ((0, 0, []), d)) := by show _ = _; rw [HRM.out, if_pos hd]
    have HBF : Hid (∀ u1 u2 u3, Below w.heap.size w (((w9.setCell ⟨w.heap.size, 0, none⟩ u1).setCell ⟨w.heap.size, 1, none⟩ u2).setCell ⟨w.heap.size, 2, none⟩ u3)) := fun u1 u2 u3 => (((HW.out _ HB6.out).setCell (Nat.le_refl _) _).setCell (Nat.le_refl _) _).setCell (Nat.le_refl _) _
    go_wp2_with fail
    refine bodyPost_ret (res_MR _ _ w.heap.size 0 0 (.slice none 0 0) d rfl rfl ?_ ?_ ?_) rfl ?_
    · go_simp
    · go_simp
    · go_simp
    · rw [HF.out]
      exact ⟨⟨none, 0, rfl, Nat.zero_le _, OwnS.nil _ _⟩, HBF.out _ _ _⟩
end Go.Proofs.Ytmhkalalcmkpbaa

namespace Go.Proofs.Ytmhkalalcmkpbaa
open Go.RowKit
set_option linter.unusedVariables false
set_option linter.unusedSimpArgs false

/-- A fact: its dot, stamp, kind, name and value. -/
abbrev FactT := (Int × Int) × (Int × Int × Int) × Int × ByteArray × ByteArray
abbrev factv (f : FactT) : Value := .agg #[.int .i64 f.1.1, .int .i64 f.1.2, .int .i64 f.2.1.1, .int .i64 f.2.1.2.1, .int .i64 f.2.1.2.2, .int .i64 f.2.2.1, .string f.2.2.2.1, .string f.2.2.2.2]
def nameOk (s : ByteArray) : Bool := decide (s.size ≠ 0 ∧ s.size ≤ 64)
def valE (k : Int) (v : ByteArray) : Int :=
  if k = 1 then (if 16384 < v.size then 3 else (readM v).2) else if k = 2 then (if 256 < v.size then 3 else 0) else if k = 3 then (if nameOk v = true then 0 else 14) else if k = 4 then (if v.size ≠ 8 then 5 else 0) else 0
def chkF (f : FactT) : Int :=
  if chk f.1 ≠ 0 then chk f.1 else if chkS f.2.1 ≠ 0 then chkS f.2.1 else if f.1.1 ≠ f.2.1.2.2 then 5 else if f.2.2.1 < 1 ∨ 4 < f.2.2.1 then 1 else if nameOk f.2.2.2.1 = false then 14 else valE f.2.2.1 f.2.2.2.2

set_option maxRecDepth 100000 in
theorem named_c (s : ByteArray) (hs : s.size ≤ 9223372036854775807) (w : World) : Calls Try.prog 138 #[.string s] w fun e w' => e = .returned (.bool (nameOk s)) ∧ w = w' := by
  have hse := str_empty_iff s
  by_cases h0 : s.size = 0
  · have hn : nameOk s = false := decide_eq_false (by omega)
    rw [hn]; clear hn
    rw [decide_eq_true h0] at hse
    have hse2 : s.toList = [] := by simpa using hse
    go_enter Try.func138, Try.ntmps138
    go_wp2
    go_ret
    exact ⟨rfl, rfl⟩
  · rw [decide_eq_false h0] at hse
    have hse2 : ¬ s.toList = [] := fun h => by rw [h] at hse; cases hse
    by_cases h1 : s.size ≤ 64
    · have hn : nameOk s = true := decide_eq_true ⟨h0, h1⟩
      rw [hn]; clear hn
      have hd : decide ((s.size : Int) ≤ 64) = true := decide_eq_true (by omega)
      go_enter Try.func138, Try.ntmps138
      go_wp2
      go_ret
      exact ⟨rfl, rfl⟩
    · have hn : nameOk s = false := decide_eq_false (by omega)
      rw [hn]; clear hn
      have hd : decide ((s.size : Int) ≤ 64) = false := decide_eq_false (by omega)
      go_enter Try.func138, Try.ntmps138
      go_wp2
      go_ret
      exact ⟨rfl, rfl⟩

set_option maxHeartbeats 2000000 in
set_option maxRecDepth 100000 in
theorem value_c (f : FactT) (hv : f.2.2.2.2.size < 1000000000) (w : World) : Calls Try.prog 139 #[factv f] w fun e w' => e = .returned (.int .i64 (valE f.2.2.1 f.2.2.2.2)) ∧ Below w.heap.size w w' := by
  obtain ⟨⟨d1, d2⟩, ⟨t, c, r⟩, k, n, v⟩ := f
  simp only [factv] at hv ⊢
  have HBX : Hid (∀ X : World, Below (w.alloc (.cells #[.int .i64 d1, .int .i64 d2, .int .i64 t, .int .i64 c, .int .i64 r, .int .i64 k, .string n, .string v] 87)).heap.size (w.alloc (.cells #[.int .i64 d1, .int .i64 d2, .int .i64 t, .int .i64 c, .int .i64 r, .int .i64 k, .string n, .string v] 87)) X → Below w.heap.size w X) := fun X hX => ((Below.refl w.heap.size w).alloc (Nat.le_refl _) _).trans (hX.mono (by simp))
  by_cases hk1 : k = 1
  · subst hk1
    by_cases h1 : 16384 < v.size
    · have hd : decide ((v.size : Int) > 16384) = true := decide_eq_true (by omega)
      have hc : valE 1 v = 3 := by unfold valE; rw [if_pos rfl, if_pos h1]
      rw [hc]; clear hc
      go_enter Try.func139, Try.ntmps139
      go_wp2
      go_ret
      exact ⟨rfl, (Below.refl _ _).alloc (Nat.le_refl _) _⟩
    · have hd : decide ((v.size : Int) > 16384) = false := decide_eq_false (by omega)
      have hc : valE 1 v = (readM v).2 := by unfold valE; rw [if_pos rfl, if_neg h1]
      rw [hc]; clear hc
      have hm := fun W => mread_c v hv W
      generalize readM v = q at *
      obtain ⟨⟨q1, q2, q3⟩, q4⟩ := q
      simp only [RetM] at hm
      go_enter Try.func139, Try.ntmps139
      go_wp2_with fail
      refine (hm _).mono ?_
      rintro e w5 ⟨⟨A, c2, rfl, _, _⟩, hb5⟩
      go_wp2_with fail
      go_ret
      exact ⟨rfl, (HBX.out _ hb5).alloc (HBX.out _ hb5).size _⟩
  · have hb1 : (k == 1) = false := by simpa using hk1
    by_cases hk2 : k = 2
    · subst hk2
      by_cases h1 : 256 < v.size
      · have hd : decide ((v.size : Int) > 256) = true := decide_eq_true (by omega)
        have hc : valE 2 v = 3 := by unfold valE; rw [if_neg (by decide), if_pos rfl, if_pos h1]
        rw [hc]; clear hc
        go_enter Try.func139, Try.ntmps139
        go_wp2
        go_ret
        exact ⟨rfl, (Below.refl _ _).alloc (Nat.le_refl _) _⟩
      · have hd : decide ((v.size : Int) > 256) = false := decide_eq_false (by omega)
        have hc : valE 2 v = 0 := by unfold valE; rw [if_neg (by decide), if_pos rfl, if_neg h1]
        rw [hc]; clear hc
        go_enter Try.func139, Try.ntmps139
        go_wp2
        go_ret
        exact ⟨rfl, (Below.refl _ _).alloc (Nat.le_refl _) _⟩
    · have hb2 : (k == 2) = false := by simpa using hk2
      by_cases hk3 : k = 3
      · subst hk3
        have hn := fun W => named_c v (by omega) W
        have hc : valE 3 v = if nameOk v = true then 0 else 14 := by unfold valE; rw [if_neg (by decide), if_neg (by decide), if_pos rfl]
        rw [hc]; clear hc
        generalize nameOk v = b at *
        cases b with
        | true =>
          go_enter Try.func139, Try.ntmps139
          go_wp2_with fail
          refine (hn _).mono ?_
          rintro e w5 ⟨rfl, rfl⟩
          go_wp2_with fail
          go_ret
          exact ⟨rfl, (Below.refl _ _).alloc (Nat.le_refl _) _⟩
        | false =>
          go_enter Try.func139, Try.ntmps139
          go_wp2_with fail
          refine (hn _).mono ?_
          rintro e w5 ⟨rfl, rfl⟩
          go_wp2_with fail
          go_ret
          exact ⟨rfl, (Below.refl _ _).alloc (Nat.le_refl _) _⟩
      · have hb3 : (k == 3) = false := by simpa using hk3
        by_cases hk4 : k = 4
        · subst hk4
          by_cases h1 : v.size = 8
          · have hd : ((v.size : Int) != 8) = false := by rw [bne_eq_false_iff_eq]; omega
            have hc : valE 4 v = 0 := by unfold valE; rw [if_neg (by decide), if_neg (by decide), if_neg (by decide), if_pos rfl, if_neg (by simpa using h1)]
            rw [hc]; clear hc
            go_enter Try.func139, Try.ntmps139
            go_wp2
            go_ret
            exact ⟨rfl, (Below.refl _ _).alloc (Nat.le_refl _) _⟩
          · have hd : ((v.size : Int) != 8) = true := by rw [bne_iff_ne]; omega
            have hc : valE 4 v = 5 := by unfold valE; rw [if_neg (by decide), if_neg (by decide), if_neg (by decide), if_pos rfl, if_pos h1]
            rw [hc]; clear hc
            go_enter Try.func139, Try.ntmps139
            go_wp2
            go_ret
            exact ⟨rfl, (Below.refl _ _).alloc (Nat.le_refl _) _⟩
        · have hb4 : (k == 4) = false := by simpa using hk4
          have hc : valE k v = 0 := by unfold valE; rw [if_neg hk1, if_neg hk2, if_neg hk3, if_neg hk4]
          rw [hc]; clear hc
          go_enter Try.func139, Try.ntmps139
          go_wp2
          go_ret
          exact ⟨rfl, (Below.refl _ _).alloc (Nat.le_refl _) _⟩

set_option maxHeartbeats 4000000 in
set_option maxRecDepth 100000 in
theorem fcheck_c (f : FactT) (hn : f.2.2.2.1.size ≤ 9223372036854775807) (hv : f.2.2.2.2.size < 1000000000) (w : World) : Calls Try.prog 102 #[factv f] w fun e w' => e = .returned (.int .i64 (chkF f)) ∧ Below w.heap.size w w' := by
  obtain ⟨⟨d1, d2⟩, ⟨t, c, r⟩, k, n, v⟩ := f
  simp only at hn hv
  have hcd := fun W => check_c (d1, d2) W
  have hcs := fun W => schk_c (t, c, r) W
  have hvl := fun W => value_c ((d1, d2), (t, c, r), k, n, v) hv W
  simp only [factv] at hvl
  have HCF : Hid (chkF ((d1, d2), (t, c, r), k, n, v) = if chk (d1, d2) ≠ 0 then chk (d1, d2) else if chkS (t, c, r) ≠ 0 then chkS (t, c, r) else if d1 ≠ r then 5 else if k < 1 ∨ 4 < k then 1 else if nameOk n = false then 14 else valE k v) := rfl
  generalize chkF ((d1, d2), (t, c, r), k, n, v) = cf at *
  simp only [factv, stv, dotv] at hcd hcs ⊢
  generalize chk (d1, d2) = e1 at *
  generalize chkS (t, c, r) = e2 at *
  have HG : Hid (∀ X, Below (w.alloc (.cells #[.int .i64 d1, .int .i64 d2, .int .i64 t, .int .i64 c, .int .i64 r, .int .i64 k, .string n, .string v] 87)).heap.size (w.alloc (.cells #[.int .i64 d1, .int .i64 d2, .int .i64 t, .int .i64 c, .int .i64 r, .int .i64 k, .string n, .string v] 87)) X → X.cell? ⟨w.heap.size, 0, none⟩ = some (.int .i64 d1) ∧ X.cell? ⟨w.heap.size, 1, none⟩ = some (.int .i64 d2) ∧ X.cell? ⟨w.heap.size, 2, none⟩ = some (.int .i64 t) ∧ X.cell? ⟨w.heap.size, 3, none⟩ = some (.int .i64 c) ∧ X.cell? ⟨w.heap.size, 4, none⟩ = some (.int .i64 r) ∧ X.cell? ⟨w.heap.size, 5, none⟩ = some (.int .i64 k) ∧ X.cell? ⟨w.heap.size, 6, none⟩ = some (.string n) ∧ X.cell? ⟨w.heap.size, 7, none⟩ = some (.string v)) := fun X hX =>
    ⟨keepc hX (by simp), keepc hX (by simp), keepc hX (by simp), keepc hX (by simp), keepc hX (by simp), keepc hX (by simp), keepc hX (by simp), keepc hX (by simp)⟩
  have HBX : Hid (∀ X : World, Below (w.alloc (.cells #[.int .i64 d1, .int .i64 d2, .int .i64 t, .int .i64 c, .int .i64 r, .int .i64 k, .string n, .string v] 87)).heap.size (w.alloc (.cells #[.int .i64 d1, .int .i64 d2, .int .i64 t, .int .i64 c, .int .i64 r, .int .i64 k, .string n, .string v] 87)) X → Below w.heap.size w X) := fun X hX => ((Below.refl w.heap.size w).alloc (Nat.le_refl _) _).trans (hX.mono (by simp))
  go_enter Try.func102, Try.ntmps102
  go_wp2_with fail
  generalize hW : w.alloc (.cells #[.int .i64 d1, .int .i64 d2, .int .i64 t, .int .i64 c, .int .i64 r, .int .i64 k, .string n, .string v] 87) = w1 at *
  clear hW
  refine (hcd _).mono ?_
  rintro e w2 ⟨rfl, hb⟩
  have HB_w2 : Hid (Below w1.heap.size w1 w2) := hb
  clear hb
  obtain ⟨g0, g1, g2, g3, g4, g5, g6, g7⟩ := HG.out w2 HB_w2.out
  by_cases h1 : e1 = 0
  · subst h1
    go_wp2_with fail
    refine (hcs _).mono ?_
    rintro e w3 ⟨rfl, hb⟩
    have HB_w3 : Hid (Below w1.heap.size w1 w3) := HB_w2.out.trans (hb.mono HB_w2.out.size)
    clear hb
    clear g0 g1 g2 g3 g4 g5 g6 g7
    obtain ⟨g0, g1, g2, g3, g4, g5, g6, g7⟩ := HG.out w3 HB_w3.out
    by_cases h2 : e2 = 0
    · subst h2
      by_cases h3 : d1 = r
      · subst h3
        have d3 : (d1 != d1) = false := by simp
        by_cases h4 : k < 1
        · have d4 : decide (k < 1) = true := decide_eq_true h4
          have HF : Hid (cf = 1) := by show _ = _; rw [HCF.out, if_neg (by simp), if_neg (by simp), if_neg (by simp), if_pos (.inl h4)]
          clear HCF
          go_wp2_with fail
          go_ret
          exact ⟨ret_int HF.out.symm, HBX.out _ HB_w3.out⟩
        · have d4 : decide (k < 1) = false := decide_eq_false h4
          by_cases h5 : 4 < k
          · have d5 : decide (k > 4) = true := decide_eq_true h5
            have HF : Hid (cf = 1) := by show _ = _; rw [HCF.out, if_neg (by simp), if_neg (by simp), if_neg (by simp), if_pos (.inr h5)]
            clear HCF
            go_wp2_with fail
            go_ret
            exact ⟨ret_int HF.out.symm, HBX.out _ HB_w3.out⟩
          · have d5 : decide (k > 4) = false := decide_eq_false h5
            have hnm := fun W => named_c n hn W
            have HNM : Hid (nameOk n = nameOk n) := rfl
            generalize hnb : nameOk n = b at hnm
            have HNB := Lib.hid hnb
            clear hnb
            cases b with
            | false =>
              go_wp2_with fail
              refine (hnm _).mono ?_
              rintro e w5 ⟨rfl, rfl⟩
              have HF : Hid (cf = 14) := by show _ = _; rw [HCF.out, if_neg (by simp), if_neg (by simp), if_neg (by simp), if_neg (by omega), if_pos HNB.out]
              clear HCF
              go_wp2_with fail
              go_ret
              exact ⟨ret_int HF.out.symm, HBX.out _ HB_w3.out⟩
            | true =>
              go_wp2_with fail
              refine (hnm _).mono ?_
              rintro e w5 ⟨rfl, rfl⟩
              go_wp2_with fail
              refine (hvl _).mono ?_
              rintro e w6 ⟨rfl, hb6⟩
              have HB_w6 : Hid (Below w1.heap.size w1 w6) := HB_w3.out.trans (hb6.mono HB_w3.out.size)
              clear hb6
              have HF : Hid (cf = valE k v) := by show _ = _; rw [HCF.out, if_neg (by simp), if_neg (by simp), if_neg (by simp), if_neg (by omega), if_neg (by rw [HNB.out]; simp)]
              clear HCF
              go_wp2_with fail
              go_ret
              exact ⟨ret_int HF.out.symm, HBX.out _ HB_w6.out⟩
      · have d3 : (d1 != r) = true := by simpa using h3
        have HF : Hid (cf = 5) := by show _ = _; rw [HCF.out, if_neg (by simp), if_neg (by simp), if_pos h3]
        clear HCF
        go_wp2_with fail
        go_ret
        exact ⟨ret_int HF.out.symm, HBX.out _ HB_w3.out⟩
    · have d2 : (e2 != 0) = true := by simpa using h2
      have HF : Hid (cf = e2) := by show _ = _; rw [HCF.out, if_neg (by simp), if_pos h2]
      clear HCF
      go_wp2_with fail
      go_ret
      exact ⟨ret_int HF.out.symm, HBX.out _ HB_w3.out⟩
  · have d1' : (e1 != 0) = true := by simpa using h1
    have HF : Hid (cf = e1) := by show _ = _; rw [HCF.out, if_pos h1]
    clear HCF
    go_wp2_with fail
    go_ret
    exact ⟨ret_int HF.out.symm, HBX.out _ HB_w2.out⟩

set_option maxHeartbeats 4000000 in
set_option maxRecDepth 100000 in
theorem rfcheck_c (f : FactT) (hn : f.2.2.2.1.size ≤ 9223372036854775807) (hv : f.2.2.2.2.size < 1000000000) (w : World) : Calls Try.prog 128 #[factv f] w fun e w' => e = .returned (.int .i64 (chkF f)) ∧ Below w.heap.size w w' := by
  obtain ⟨⟨d1, d2⟩, ⟨t, c, r⟩, k, n, v⟩ := f
  simp only at hn hv
  have hcd := fun W => rcheck_c (d1, d2) W
  have hcs := fun W => rschk_c (t, c, r) W
  have HCF : Hid (chkF ((d1, d2), (t, c, r), k, n, v) = if chk (d1, d2) ≠ 0 then chk (d1, d2) else if chkS (t, c, r) ≠ 0 then chkS (t, c, r) else if d1 ≠ r then 5 else if k < 1 ∨ 4 < k then 1 else if nameOk n = false then 14 else valE k v) := rfl
  generalize chkF ((d1, d2), (t, c, r), k, n, v) = cf at *
  simp only [factv, stv, dotv] at hcd hcs ⊢
  generalize chk (d1, d2) = e1 at *
  generalize chkS (t, c, r) = e2 at *
  have HG : Hid (∀ X, Below (w.alloc (.cells #[.int .i64 d1, .int .i64 d2, .int .i64 t, .int .i64 c, .int .i64 r, .int .i64 k, .string n, .string v] 87)).heap.size (w.alloc (.cells #[.int .i64 d1, .int .i64 d2, .int .i64 t, .int .i64 c, .int .i64 r, .int .i64 k, .string n, .string v] 87)) X → X.cell? ⟨w.heap.size, 0, none⟩ = some (.int .i64 d1) ∧ X.cell? ⟨w.heap.size, 1, none⟩ = some (.int .i64 d2) ∧ X.cell? ⟨w.heap.size, 2, none⟩ = some (.int .i64 t) ∧ X.cell? ⟨w.heap.size, 3, none⟩ = some (.int .i64 c) ∧ X.cell? ⟨w.heap.size, 4, none⟩ = some (.int .i64 r) ∧ X.cell? ⟨w.heap.size, 5, none⟩ = some (.int .i64 k) ∧ X.cell? ⟨w.heap.size, 6, none⟩ = some (.string n) ∧ X.cell? ⟨w.heap.size, 7, none⟩ = some (.string v)) := fun X hX =>
    ⟨keepc hX (by simp), keepc hX (by simp), keepc hX (by simp), keepc hX (by simp), keepc hX (by simp), keepc hX (by simp), keepc hX (by simp), keepc hX (by simp)⟩
  have HBX : Hid (∀ X : World, Below (w.alloc (.cells #[.int .i64 d1, .int .i64 d2, .int .i64 t, .int .i64 c, .int .i64 r, .int .i64 k, .string n, .string v] 87)).heap.size (w.alloc (.cells #[.int .i64 d1, .int .i64 d2, .int .i64 t, .int .i64 c, .int .i64 r, .int .i64 k, .string n, .string v] 87)) X → Below w.heap.size w X) := fun X hX => ((Below.refl w.heap.size w).alloc (Nat.le_refl _) _).trans (hX.mono (by simp))
  go_enter Try.func128, Try.ntmps128
  go_wp2_with fail
  generalize hW : w.alloc (.cells #[.int .i64 d1, .int .i64 d2, .int .i64 t, .int .i64 c, .int .i64 r, .int .i64 k, .string n, .string v] 87) = w1 at *
  clear hW
  refine (hcd _).mono ?_
  rintro e w2 ⟨rfl, hb⟩
  have HB_w2 : Hid (Below w1.heap.size w1 w2) := hb
  clear hb
  obtain ⟨g0, g1, g2, g3, g4, g5, g6, g7⟩ := HG.out w2 HB_w2.out
  by_cases h1 : e1 = 0
  · subst h1
    go_wp2_with fail
    refine (hcs _).mono ?_
    rintro e w3 ⟨rfl, hb⟩
    have HB_w3 : Hid (Below w1.heap.size w1 w3) := HB_w2.out.trans (hb.mono HB_w2.out.size)
    clear hb
    clear g0 g1 g2 g3 g4 g5 g6 g7
    obtain ⟨g0, g1, g2, g3, g4, g5, g6, g7⟩ := HG.out w3 HB_w3.out
    by_cases h2 : e2 = 0
    · subst h2
      by_cases h3 : d1 = r
      · subst h3
        have d3 : (d1 != d1) = false := by simp
        by_cases h4 : k < 1
        · have d4 : decide (k < 1) = true := decide_eq_true h4
          have HF : Hid (cf = 1) := by show _ = _; rw [HCF.out, if_neg (by simp), if_neg (by simp), if_neg (by simp), if_pos (.inl h4)]
          clear HCF
          go_wp2_with fail
          go_ret
          exact ⟨ret_int HF.out.symm, HBX.out _ HB_w3.out⟩
        · have d4 : decide (k < 1) = false := decide_eq_false h4
          by_cases h5 : 4 < k
          · have d5 : decide (k > 4) = true := decide_eq_true h5
            have HF : Hid (cf = 1) := by show _ = _; rw [HCF.out, if_neg (by simp), if_neg (by simp), if_neg (by simp), if_pos (.inr h5)]
            clear HCF
            go_wp2_with fail
            go_ret
            exact ⟨ret_int HF.out.symm, HBX.out _ HB_w3.out⟩
          · have d5 : decide (k > 4) = false := decide_eq_false h5
            by_cases h6 : n.size < 1
            · have d6 : decide ((n.size : Int) < 1) = true := decide_eq_true (by omega)
              have HF : Hid (cf = 14) := by show _ = _; rw [HCF.out, if_neg (by simp), if_neg (by simp), if_neg (by simp), if_neg (by omega), if_pos (show nameOk n = false from decide_eq_false (by omega))]
              clear HCF
              go_wp2_with fail
              go_ret
              exact ⟨ret_int HF.out.symm, HBX.out _ HB_w3.out⟩
            · have d6 : decide ((n.size : Int) < 1) = false := decide_eq_false (by omega)
              by_cases h7 : 64 < n.size
              · have d7 : decide ((n.size : Int) > 64) = true := decide_eq_true (by omega)
                have HF : Hid (cf = 14) := by show _ = _; rw [HCF.out, if_neg (by simp), if_neg (by simp), if_neg (by simp), if_neg (by omega), if_pos (show nameOk n = false from decide_eq_false (by omega))]
                clear HCF
                go_wp2_with fail
                go_ret
                exact ⟨ret_int HF.out.symm, HBX.out _ HB_w3.out⟩
              · have d7 : decide ((n.size : Int) > 64) = false := decide_eq_false (by omega)
                have hk : k = 1 ∨ k = 2 ∨ k = 3 ∨ k = 4 := by omega
                rcases hk with rfl | rfl | rfl | rfl
                · by_cases h8 : 16384 < v.size
                  · have d8 : decide ((v.size : Int) > 16384) = true := decide_eq_true (by omega)
                    have HF : Hid (cf = 3) := by show _ = _; rw [HCF.out, if_neg (by simp), if_neg (by simp), if_neg (by simp), if_neg (by omega), if_neg (by unfold nameOk; rw [decide_eq_true (show n.size ≠ 0 ∧ n.size ≤ 64 by omega)]; simp)]; unfold valE; rw [if_pos rfl, if_pos h8]
                    clear HCF
                    go_wp2_with fail
                    go_ret
                    exact ⟨ret_int HF.out.symm, HBX.out _ HB_w3.out⟩
                  · have d8 : decide ((v.size : Int) > 16384) = false := decide_eq_false (by omega)
                    have hm := fun W => rmread_c v hv W
                    have HVE : Hid (valE 1 v = (readM v).2) := by show _ = _; unfold valE; rw [if_pos rfl, if_neg h8]
                    generalize readM v = q at *
                    obtain ⟨⟨q1, q2, q3⟩, q4⟩ := q
                    simp only [RetM] at hm HVE
                    go_wp2_with fail
                    refine (hm _).mono ?_
                    rintro e w5 ⟨⟨A, c2, rfl, _, _⟩, hb5⟩
                    have HB_w5 : Hid (Below w1.heap.size w1 (w5.alloc (.cells #[.int .i64 q1, .int .i64 q2, .slice A q3.length c2] 201))) := (HB_w3.out.trans (hb5.mono HB_w3.out.size)).alloc (Nat.le_trans HB_w3.out.size hb5.size) _
                    have HF : Hid (cf = q4) := by show _ = _; rw [HCF.out, if_neg (by simp), if_neg (by simp), if_neg (by simp), if_neg (by omega), if_neg (by unfold nameOk; rw [decide_eq_true (show n.size ≠ 0 ∧ n.size ≤ 64 by omega)]; simp), HVE.out]
                    clear HCF
                    go_wp2_with fail
                    go_ret
                    exact ⟨ret_int HF.out.symm, HBX.out _ HB_w5.out⟩
                · by_cases h8 : 256 < v.size
                  · have d8 : decide ((v.size : Int) > 256) = true := decide_eq_true (by omega)
                    have HF : Hid (cf = 3) := by show _ = _; rw [HCF.out, if_neg (by simp), if_neg (by simp), if_neg (by simp), if_neg (by omega), if_neg (by unfold nameOk; rw [decide_eq_true (show n.size ≠ 0 ∧ n.size ≤ 64 by omega)]; simp)]; unfold valE; rw [if_neg (by decide), if_pos rfl, if_pos h8]
                    clear HCF
                    go_wp2_with fail
                    go_ret
                    exact ⟨ret_int HF.out.symm, HBX.out _ HB_w3.out⟩
                  · have d8 : decide ((v.size : Int) > 256) = false := decide_eq_false (by omega)
                    have HF : Hid (cf = 0) := by show _ = _; rw [HCF.out, if_neg (by simp), if_neg (by simp), if_neg (by simp), if_neg (by omega), if_neg (by unfold nameOk; rw [decide_eq_true (show n.size ≠ 0 ∧ n.size ≤ 64 by omega)]; simp)]; unfold valE; rw [if_neg (by decide), if_pos rfl, if_neg h8]
                    clear HCF
                    go_wp2_with fail
                    go_ret
                    exact ⟨ret_int HF.out.symm, HBX.out _ HB_w3.out⟩
                · by_cases h8 : v.size < 1
                  · have d8 : decide ((v.size : Int) < 1) = true := decide_eq_true (by omega)
                    have HF : Hid (cf = 14) := by show _ = _; rw [HCF.out, if_neg (by simp), if_neg (by simp), if_neg (by simp), if_neg (by omega), if_neg (by unfold nameOk; rw [decide_eq_true (show n.size ≠ 0 ∧ n.size ≤ 64 by omega)]; simp)]; unfold valE; rw [if_neg (by decide), if_neg (by decide), if_pos rfl, if_neg (by unfold nameOk; rw [decide_eq_false (by omega)]; simp)]
                    clear HCF
                    go_wp2_with fail
                    go_ret
                    exact ⟨ret_int HF.out.symm, HBX.out _ HB_w3.out⟩
                  · have d8 : decide ((v.size : Int) < 1) = false := decide_eq_false (by omega)
                    by_cases h9 : 64 < v.size
                    · have d9 : decide ((v.size : Int) > 64) = true := decide_eq_true (by omega)
                      have HF : Hid (cf = 14) := by show _ = _; rw [HCF.out, if_neg (by simp), if_neg (by simp), if_neg (by simp), if_neg (by omega), if_neg (by unfold nameOk; rw [decide_eq_true (show n.size ≠ 0 ∧ n.size ≤ 64 by omega)]; simp)]; unfold valE; rw [if_neg (by decide), if_neg (by decide), if_pos rfl, if_neg (by unfold nameOk; rw [decide_eq_false (by omega)]; simp)]
                      clear HCF
                      go_wp2_with fail
                      go_ret
                      exact ⟨ret_int HF.out.symm, HBX.out _ HB_w3.out⟩
                    · have d9 : decide ((v.size : Int) > 64) = false := decide_eq_false (by omega)
                      have HF : Hid (cf = 0) := by show _ = _; rw [HCF.out, if_neg (by simp), if_neg (by simp), if_neg (by simp), if_neg (by omega), if_neg (by unfold nameOk; rw [decide_eq_true (show n.size ≠ 0 ∧ n.size ≤ 64 by omega)]; simp)]; unfold valE; rw [if_neg (by decide), if_neg (by decide), if_pos rfl, if_pos (show nameOk v = true from decide_eq_true (by omega))]
                      clear HCF
                      go_wp2_with fail
                      go_ret
                      exact ⟨ret_int HF.out.symm, HBX.out _ HB_w3.out⟩
                · by_cases h8 : v.size = 8
                  · have d8 : ((v.size : Int) != 8) = false := by rw [bne_eq_false_iff_eq]; omega
                    have HF : Hid (cf = 0) := by show _ = _; rw [HCF.out, if_neg (by simp), if_neg (by simp), if_neg (by simp), if_neg (by omega), if_neg (by unfold nameOk; rw [decide_eq_true (show n.size ≠ 0 ∧ n.size ≤ 64 by omega)]; simp)]; unfold valE; rw [if_neg (by decide), if_neg (by decide), if_neg (by decide), if_pos rfl, if_neg (by simpa using h8)]
                    clear HCF
                    go_wp2_with fail
                    go_ret
                    exact ⟨ret_int HF.out.symm, HBX.out _ HB_w3.out⟩
                  · have d8 : ((v.size : Int) != 8) = true := by rw [bne_iff_ne]; omega
                    have HF : Hid (cf = 5) := by show _ = _; rw [HCF.out, if_neg (by simp), if_neg (by simp), if_neg (by simp), if_neg (by omega), if_neg (by unfold nameOk; rw [decide_eq_true (show n.size ≠ 0 ∧ n.size ≤ 64 by omega)]; simp)]; unfold valE; rw [if_neg (by decide), if_neg (by decide), if_neg (by decide), if_pos rfl, if_pos h8]
                    clear HCF
                    go_wp2_with fail
                    go_ret
                    exact ⟨ret_int HF.out.symm, HBX.out _ HB_w3.out⟩
      · have d3 : (d1 != r) = true := by simpa using h3
        have HF : Hid (cf = 5) := by show _ = _; rw [HCF.out, if_neg (by simp), if_neg (by simp), if_pos h3]
        clear HCF
        go_wp2_with fail
        go_ret
        exact ⟨ret_int HF.out.symm, HBX.out _ HB_w3.out⟩
    · have d2 : (e2 != 0) = true := by simpa using h2
      have HF : Hid (cf = e2) := by show _ = _; rw [HCF.out, if_neg (by simp), if_pos h2]
      clear HCF
      go_wp2_with fail
      go_ret
      exact ⟨ret_int HF.out.symm, HBX.out _ HB_w3.out⟩
  · have d1' : (e1 != 0) = true := by simpa using h1
    have HF : Hid (cf = e1) := by show _ = _; rw [HCF.out, if_pos h1]
    clear HCF
    go_wp2_with fail
    go_ret
    exact ⟨ret_int HF.out.symm, HBX.out _ HB_w2.out⟩
end Go.Proofs.Ytmhkalalcmkpbaa

namespace Go.Proofs.Ytmhkalalcmkpbaa
open Go.RowKit
set_option linter.unusedVariables false
set_option linter.unusedSimpArgs false

/-- Which of two names comes first. -/
def ltStr (a b : ByteArray) : Bool := Op.bytesLess a.toList b.toList
def cmpStr (a b : ByteArray) : Int := if ltStr a b = true then -1 else if ltStr b a = true then 1 else 0

theorem binOp_string_gtr (t : TypeId) (a b : ByteArray) : binOp .gtr t (.string a) (.string b) = pure (.bool (!(Op.bytesLess a.toList b.toList) && !(a.toList == b.toList))) := by
  simp [binOp, Op.stringOp]

theorem bytesLess_irrefl : ∀ l, Op.bytesLess l l = false
  | [] => rfl
  | a :: x => by simp [Op.bytesLess, bytesLess_irrefl x]
theorem bytesLess_trans : ∀ a b c, Op.bytesLess a b = true → Op.bytesLess b c = true → Op.bytesLess a c = true
  | _, _, [] => by intro _ h; simp [Op.bytesLess] at h
  | _, [], _ :: _ => by intro h; simp [Op.bytesLess] at h
  | [], _ :: _, _ :: _ => by intro _ _; simp [Op.bytesLess]
  | a :: x, b :: y, c :: z => by
    intro h1 h2
    simp only [Op.bytesLess, Bool.or_eq_true, Bool.and_eq_true, decide_eq_true_eq, beq_iff_eq] at h1 h2 ⊢
    rcases h1 with h1 | ⟨rfl, h1⟩
    · rcases h2 with h2 | ⟨rfl, h2⟩
      · exact .inl (UInt8.lt_trans h1 h2)
      · exact .inl h1
    · rcases h2 with h2 | ⟨rfl, h2⟩
      · exact .inl h2
      · exact .inr ⟨rfl, bytesLess_trans _ _ _ h1 h2⟩
theorem bytesLess_total : ∀ a b, Op.bytesLess a b = false → Op.bytesLess b a = false → a = b
  | [], [] => fun _ _ => rfl
  | _ :: _, [] => by intro _ h; simp [Op.bytesLess] at h
  | [], _ :: _ => by intro h; simp [Op.bytesLess] at h
  | a :: x, b :: y => by
    intro h1 h2
    simp only [Op.bytesLess, Bool.or_eq_false_iff, decide_eq_false_iff_not, Bool.and_eq_false_iff] at h1 h2
    have hab : a = b := UInt8.le_antisymm (UInt8.not_lt.1 h2.1) (UInt8.not_lt.1 h1.1)
    subst hab
    simp at h1 h2
    rw [bytesLess_total x y h1 h2]

theorem toList_inj {a b : ByteArray} (h : a.toList = b.toList) : a = b := by
  rw [ByteArray.toList_eq, ByteArray.toList_eq] at h
  cases a; cases b
  simp only [ByteArray.mk.injEq]
  exact Array.toList_inj.1 h

theorem stoStr : STO ltStr where
  irrefl a := bytesLess_irrefl _
  trans a b c := bytesLess_trans _ _ _
  total a b h1 h2 := toList_inj (bytesLess_total _ _ h1 h2)

theorem gtrStr (a b : ByteArray) : (!(Op.bytesLess a.toList b.toList) && !(a.toList == b.toList)) = ltStr b a := by
  unfold ltStr
  cases h : Op.bytesLess a.toList b.toList with
  | true =>
    cases h2 : Op.bytesLess b.toList a.toList with
    | false => rfl
    | true => have := bytesLess_trans _ _ _ h h2; rw [bytesLess_irrefl] at this; cases this
  | false =>
    cases h2 : Op.bytesLess b.toList a.toList with
    | false => have := bytesLess_total _ _ h h2; simp [this]
    | true =>
      have : ¬ a.toList = b.toList := fun e => by rw [e, bytesLess_irrefl] at h2; cases h2
      simpa using this

theorem snan_c (x : ByteArray) (w : World) : Calls Try.prog 168 #[.string x] w fun e w' => e = .returned (.bool false) ∧ w = w' := by
  go_enter Try.func168, Try.ntmps168
  go_wp2
  go_ret
  exact ⟨by simp, rfl⟩

set_option maxRecDepth 100000 in
theorem scmp_c (x y : ByteArray) (w : World) : Calls Try.prog 144 #[.string x, .string y] w fun e w' => e = .returned (.int .i64 (cmpStr x y)) ∧ w = w' := by
  have hg := binOp_string_gtr
  have hr : cmpStr x y = if ltStr x y = true then -1 else if ltStr y x = true then 1 else 0 := rfl
  rw [hr]; clear hr
  have h1 : ∀ t, binOp .lss t (.string x) (.string y) = pure (.bool (ltStr x y)) := fun t => binOp_string_lss t x y
  have h2 : ∀ t, binOp .gtr t (.string x) (.string y) = pure (.bool (ltStr y x)) := fun t => by rw [binOp_string_gtr, gtrStr]
  clear hg
  generalize ltStr x y = p at *
  generalize ltStr y x = q at *
  cases p <;> cases q <;>
  · go_enter Try.func144, Try.ntmps144
    go_wp2_with (go_at_call 168; refine (snan_c _ _).mono ?_; rintro e w' ⟨rfl, rfl⟩)
    go_ret
    exact ⟨rfl, rfl⟩

end Go.Proofs.Ytmhkalalcmkpbaa

namespace Go.Proofs.Ytmhkalalcmkpbaa
open Go.RowKit
set_option linter.unusedVariables false
set_option linter.unusedSimpArgs false

/-- What by answers of an order. -/
def byL (p q : Bool) : Int := if p = true then -1 else if q = true then 1 else 0
theorem cmpI_zero (a b : Int) : cmpI a b = 0 ↔ a = b := by
  unfold cmpI; split <;> (try split) <;> constructor <;> intro h <;> omega
theorem ltS_iff (a b : Int × Int × Int) : ltS a b = true ↔ a.1 < b.1 ∨ (a.1 = b.1 ∧ (a.2.1 < b.2.1 ∨ (a.2.1 = b.2.1 ∧ a.2.2 < b.2.2))) := by unfold ltS; simp
theorem stoS : STO ltS where
  irrefl a := by
    rw [Bool.eq_false_iff]; intro h; rw [ltS_iff] at h; omega
  trans a b c h1 h2 := by
    rw [ltS_iff] at *; omega
  total a b h1 h2 := by
    rw [Bool.eq_false_iff] at h1 h2
    rw [ne_eq, ltS_iff] at h1 h2
    obtain ⟨a1, a2, a3⟩ := a
    obtain ⟨b1, b2, b3⟩ := b
    simp only at h1 h2
    have e1 : a1 = b1 := by omega
    have e2 : a2 = b2 := by omega
    have e3 : a3 = b3 := by omega
    rw [e1, e2, e3]

/-- A comparison as Go's packages know it: below zero, zero, above. -/
structure Cmps {α : Type} (c : α → α → Int) : Prop where
  zero : ∀ a b, c a b = 0 ↔ a = b
  flip : ∀ a b, c a b < 0 ↔ 0 < c b a
  trans : ∀ a b d, c a b < 0 → c b d < 0 → c a d < 0

theorem Cmps.sto {α : Type} {c : α → α → Int} (h : Cmps c) : STO (fun a b => decide (c a b < 0)) where
  irrefl a := by
    have := (h.zero a a).2 rfl
    simp [this]
  trans a b d h1 h2 := by
    simp only [decide_eq_true_eq] at *
    exact h.trans a b d h1 h2
  total a b h1 h2 := by
    simp only [decide_eq_false_iff_not] at *
    have := h.flip b a
    exact (h.zero a b).1 (by omega)

theorem Cmps.lex {α β γ : Type} {c : α → α → Int} {d : β → β → Int} (hc : Cmps c) (hd : Cmps d) (f : γ → α) (g : γ → β)
    (hi : ∀ x y, f x = f y → g x = g y → x = y) : Cmps (fun x y => orI (c (f x) (f y)) (d (g x) (g y))) where
  zero x y := by
    have h1 := hc.zero (f x) (f y)
    have h2 := hd.zero (g x) (g y)
    unfold orI
    constructor
    · intro h
      split at h
      · rename_i h0; exact hi x y (h1.1 h0) (h2.1 h)
      · rename_i h0; exact absurd h h0
    · intro h
      subst h
      rw [if_pos (h1.2 rfl)]
      exact h2.2 rfl
  flip x y := by
    have h1 := hc.flip (f x) (f y)
    have h1' := hc.flip (f y) (f x)
    have h2 := hd.flip (g x) (g y)
    unfold orI
    split <;> split <;> first | exact h2 | omega
  trans x y z := by
    have a1 := hc.zero (f x) (f y)
    have a2 := hc.zero (f y) (f z)
    have a3 := hc.zero (f x) (f z)
    have b := hc.trans (f x) (f y) (f z)
    have e := hd.trans (g x) (g y) (g z)
    unfold orI
    intro h1 h2
    split at h1 <;> split at h2
    · rename_i p q
      rw [if_pos (a3.2 ((a1.1 p).trans (a2.1 q)))]
      exact e h1 h2
    · rename_i p q
      have := a1.1 p
      rw [← this] at h2 q
      rw [if_neg q]; exact h2
    · rename_i p q
      have := a2.1 q
      rw [this] at h1 p
      rw [if_neg p]; exact h1
    · have := b h1 h2
      rw [if_neg (by omega)]; exact this

theorem cmpsI : Cmps cmpI where
  zero := cmpI_zero
  flip a b := by unfold cmpI; split <;> split <;> (try split) <;> omega
  trans a b d := by unfold cmpI; intro h1 h2; (repeat' split at h1) <;> (repeat' split at h2) <;> (try omega) <;> (repeat' split) <;> omega

theorem cmps_of_sto {α : Type} {lt : α → α → Bool} (h : STO lt) : Cmps (fun a b => byL (lt a b) (lt b a)) where
  zero a b := by
    unfold byL
    constructor
    · intro e
      cases h1 : lt a b with
      | true => rw [h1] at e; simp at e
      | false =>
        cases h2 : lt b a with
        | true => rw [h1, h2] at e; simp at e
        | false => exact h.total a b h1 h2
    · intro e; subst e; simp [h.irrefl a]
  flip a b := by
    unfold byL
    cases h1 : lt a b with
    | true => simp [h.asymm h1]
    | false => cases h2 : lt b a <;> simp
  trans a b d h1 h2 := by
    have g : ∀ a b, byL (lt a b) (lt b a) < 0 → lt a b = true := fun a b e => by
      cases h1 : lt a b with
      | true => rfl
      | false => rw [h1] at e; unfold byL at e; cases h2 : lt b a <;> rw [h2] at e <;> simp at e
    have := h.trans a b d (g a b h1) (g b d h2)
    simp [byL, this]

def byD (a b : Int × Int) : Int := byL (ltD a b) (ltD b a)
def byW (a b : Int × Int × Int) : Int := byL (ltS a b) (ltS b a)
def ordF (x y : FactT) : Int := orI (cmpStr x.2.2.2.1 y.2.2.2.1) (orI (cmpI x.2.2.1 y.2.2.1) (orI (byD x.1 y.1) (orI (byW x.2.1 y.2.1) (cmpStr x.2.2.2.2 y.2.2.2.2))))
def ltF (x y : FactT) : Bool := decide (ordF x y < 0)

theorem cmpsS : Cmps cmpStr := cmps_of_sto stoStr
theorem cmpsF : Cmps ordF := by
  have h4 : Cmps (fun (x y : (Int × Int × Int) × ByteArray) => orI (byW x.1 y.1) (cmpStr x.2 y.2)) := (cmps_of_sto stoS).lex cmpsS Prod.fst Prod.snd (fun x y h1 h2 => Prod.ext h1 h2)
  have h3 : Cmps (fun (x y : (Int × Int) × (Int × Int × Int) × ByteArray) => orI (byD x.1 y.1) (orI (byW x.2.1 y.2.1) (cmpStr x.2.2 y.2.2))) := (cmps_of_sto stoD).lex h4 Prod.fst Prod.snd (fun x y h1 h2 => Prod.ext h1 h2)
  have h2 : Cmps (fun (x y : Int × (Int × Int) × (Int × Int × Int) × ByteArray) => orI (cmpI x.1 y.1) (orI (byD x.2.1 y.2.1) (orI (byW x.2.2.1 y.2.2.1) (cmpStr x.2.2.2 y.2.2.2)))) := cmpsI.lex h3 Prod.fst Prod.snd (fun x y h1 h2 => Prod.ext h1 h2)
  exact cmpsS.lex h2 (fun x : FactT => x.2.2.2.1) (fun x => (x.2.2.1, x.1, x.2.1, x.2.2.2.2)) (fun x y h1 h2 => by
    obtain ⟨x1, x2, x3, x4, x5⟩ := x
    obtain ⟨y1, y2, y3, y4, y5⟩ := y
    simp only [Prod.mk.injEq] at h1 h2 ⊢
    exact ⟨h2.2.1, h2.2.2.1, h2.1, h1, h2.2.2.2⟩)
theorem stoF : STO ltF := cmpsF.sto
end Go.Proofs.Ytmhkalalcmkpbaa
