/-
  ChunkW
-/
import Derived.Test.YtmhkalalcmkpbaaGreatZHexaR2
namespace Go.Proofs.YtmhkalalcmkpbaaGreat
open Go.RowKit
set_option linter.unusedVariables false
set_option linter.unusedSimpArgs false

theorem RdS.get {w : World} {B : Nat} {A : Option Addr} {n k : Nat} {l : List ByteArray} (h : RdS w B A n l) (hk : k < n) : ∃ b off, A = some ⟨b, off, none⟩ ∧ b < B ∧ w.cell? ⟨b, off + k, none⟩ = some (.string (l.getD k ⟨#[]⟩)) := by
  have hl := RdS.len h
  obtain ⟨ad, e, hb, hc⟩ := h.2 (by omega)
  have c1 := hc k (.string (l.getD k ⟨#[]⟩)) (by simp [List.getD, show k < l.length by omega])
  obtain ⟨b, off, spot⟩ := ad
  have c0 := hc 0 (.string (l.getD 0 ⟨#[]⟩)) (by simp [List.getD, show 0 < l.length by omega])
  have hs : spot = none := by simpa [Addr.add] using World.cell?_spot c0
  subst hs
  rw [add_flat] at c1
  exact ⟨b, off, e, hb, c1⟩
def manyN (n z : Nat) : Nat := (n + z - 1) / z
theorem manyN_ref (n z : Nat) (hz : 0 < z) : manyN n z = if 0 < n % z then n / z + 1 else n / z := by
  have hd := Nat.div_add_mod n z
  have hm := Nat.mod_lt n hz
  have hc : n / z * z = z * (n / z) := Nat.mul_comm _ _
  unfold manyN
  split
  · exact Nat.div_eq_of_lt_le (by rw [Nat.succ_mul]; omega) (by rw [Nat.succ_mul, Nat.succ_mul]; omega)
  · exact Nat.div_eq_of_lt_le (by omega) (by rw [Nat.succ_mul]; omega)
set_option maxRecDepth 100000 in
theorem many_c (n z : Nat) (hn : n ≤ 32768) (hz : 0 < z) (hz2 : z ≤ 4096) (w : World) : Calls Tryz.prog 92 #[.int .i64 n, .int .i64 z] w fun e w' => e = .returned (.int .i64 (manyN n z : Nat)) ∧ w' = w := by
  have e1 : ((n : Int) + (z : Int) - 1) / (z : Int) = ((manyN n z : Nat) : Int) := by
    unfold manyN
    rw [Int.natCast_ediv]; congr 1; omega
  have h0 : (0 : Int) < (z : Int) ∧ (z : Int) ≤ 4096 ∧ (0 : Int) ≤ (n : Int) ∧ (n : Int) ≤ 32768 := by omega
  have hne : ¬ (z : Int) = 0 := by omega
  have hm : manyN n z ≤ 40000 := by
    unfold manyN
    exact Nat.le_trans (Nat.div_le_self _ _) (by omega)
  generalize manyN n z = q at *
  have HE := Lib.hid e1
  clear e1
  go_enter Tryz.func92, Tryz.ntmps92
  go_wp2
  go_ret
  exact ⟨ret_int HE.out, rfl⟩
set_option maxRecDepth 100000 in
theorem rmany_c (n z : Nat) (hn : n ≤ 32768) (hz : 0 < z) (hz2 : z ≤ 4096) (w : World) : Calls Tryz.prog 69 #[.int .i64 n, .int .i64 z] w fun e w' => e = .returned (.int .i64 (manyN n z : Nat)) ∧ w' = w := by
  have hr := manyN_ref n z hz
  have h0 : (0 : Int) < (z : Int) ∧ (z : Int) ≤ 4096 ∧ (0 : Int) ≤ (n : Int) ∧ (n : Int) ≤ 32768 := by omega
  have hne : ¬ (z : Int) = 0 := by omega
  have e1 : (n : Int) / (z : Int) = ((n / z : Nat) : Int) := (Int.natCast_ediv _ _).symm
  have e2 : (n : Int) % (z : Int) = ((n % z : Nat) : Int) := (Int.natCast_emod _ _).symm
  have hq : n / z ≤ 32768 := Nat.le_trans (Nat.div_le_self _ _) hn
  generalize manyN n z = q at *
  generalize n % z = rr at *
  generalize n / z = dd at *
  by_cases hp : 0 < rr
  · rw [if_pos hp] at hr
    have hd : decide ((n : Int) % (z : Int) > 0) = true := decide_eq_true (by rw [e2]; omega)
    have hb : (0 : Int) ≤ (n : Int) / (z : Int) ∧ (n : Int) / (z : Int) ≤ 32768 := by rw [e1]; omega
    have HE : Hid ((n : Int) / (z : Int) + 1 = (q : Int)) := by show _ = _; rw [e1, hr]; rfl
    clear e1 e2 hr hp
    go_enter Tryz.func69, Tryz.ntmps69
    go_wp2
    go_ret
    exact ⟨ret_int HE.out, rfl⟩
  · rw [if_neg hp] at hr
    have hd : decide ((n : Int) % (z : Int) > 0) = false := decide_eq_false (by rw [e2]; omega)
    have hb : (0 : Int) ≤ (n : Int) / (z : Int) ∧ (n : Int) / (z : Int) ≤ 32768 := by rw [e1]; omega
    have HE : Hid ((n : Int) / (z : Int) = (q : Int)) := by show _ = _; rw [e1, hr]
    clear e1 e2 hr hp
    go_enter Tryz.func69, Tryz.ntmps69
    go_wp2
    go_ret
    exact ⟨ret_int HE.out, rfl⟩

/-- Why a manifest may not be. -/
def chkM (sz ch : Int) (ids : List ByteArray) : Int :=
  if ch < 1 ∨ 4096 < ch ∨ sz < 0 ∨ 32768 < sz then 2 else if ids.length ≠ manyN sz.toNat ch.toNat then 5 else
  if ids.all (fun s => decide (idE s = 0)) = false then 5 else if 4096 < ids.length then 3 else 0
abbrev manv (sz ch : Int) (A : Option Addr) (m c : Nat) : Value := .agg #[.int .i64 sz, .int .i64 ch, .slice A m c]
theorem idE_vals (s : ByteArray) : idE s = 0 ∨ idE s = 5 := by unfold idE; split; exact .inl rfl; exact .inr rfl
theorem all_take (l : List ByteArray) (p : ByteArray → Bool) (k : Nat) (h : k < l.length) : (l.take (k + 1)).all p = ((l.take k).all p && p (l.getD k ⟨#[]⟩)) := by
  rw [List.take_succ_eq_append_getElem h, List.all_append]; simp [List.getD, h]
theorem all_stop (l : List ByteArray) (p : ByteArray → Bool) (k : Nat) (h : k < l.length) (hf : p (l.getD k ⟨#[]⟩) = false) : l.all p = false := by
  rw [List.all_eq_false]
  refine ⟨l.getD k ⟨#[]⟩, ?_, by simpa using hf⟩
  simp [List.getD, h]

set_option maxHeartbeats 4000000 in
set_option maxRecDepth 100000 in
theorem mchk_c (sz ch : Int) (A : Option Addr) (m c B : Nat) (ids : List ByteArray) (w : World) (h1 : RdS w B A m ids) (hB : B ≤ w.heap.size) (hm : m < 1000000) (hz : ∀ s ∈ ids, s.size < 1000000000) :
    Calls Tryz.prog 67 #[manv sz ch A m c] w fun e w' => e = .returned (.int .i64 (chkM sz ch ids)) ∧ Below w.heap.size w w' := by
  have HX := Lib.hid (RdS.len h1)
  have HR := Lib.hid (Reads.more h1 hB)
  have HZ := Lib.hid hz
  clear h1 hB hz
  simp only [manv]
  by_cases h2 : ch < 1
  · have hc : chkM sz ch ids = 2 := if_pos (by omega)
    rw [hc]; clear hc
    have d0 : decide (ch < 1) = true := decide_eq_true (by omega)
    go_enter Tryz.func67, Tryz.ntmps67
    go_wp2
    go_ret
    exact ⟨rfl, (Below.refl _ _).alloc (Nat.le_refl _) _⟩
  · have d0 : decide (ch < 1) = false := decide_eq_false (by omega)
    by_cases h3 : 4096 < ch
    · have hc : chkM sz ch ids = 2 := if_pos (by omega)
      rw [hc]; clear hc
      have d1 : decide (ch > 4096) = true := decide_eq_true (by omega)
      go_enter Tryz.func67, Tryz.ntmps67
      go_wp2
      go_ret
      exact ⟨rfl, (Below.refl _ _).alloc (Nat.le_refl _) _⟩
    · have d1 : decide (ch > 4096) = false := decide_eq_false (by omega)
      by_cases h4 : sz < 0
      · have hc : chkM sz ch ids = 2 := if_pos (by omega)
        rw [hc]; clear hc
        have d2 : decide (sz < 0) = true := decide_eq_true (by omega)
        go_enter Tryz.func67, Tryz.ntmps67
        go_wp2
        go_ret
        exact ⟨rfl, (Below.refl _ _).alloc (Nat.le_refl _) _⟩
      · have d2 : decide (sz < 0) = false := decide_eq_false (by omega)
        by_cases h5 : 32768 < sz
        · have hc : chkM sz ch ids = 2 := if_pos (by omega)
          rw [hc]; clear hc
          have d3 : decide (sz > 32768) = true := decide_eq_true (by omega)
          go_enter Tryz.func67, Tryz.ntmps67
          go_wp2
          go_ret
          exact ⟨rfl, (Below.refl _ _).alloc (Nat.le_refl _) _⟩
        · have d3 : decide (sz > 32768) = false := decide_eq_false (by omega)
          obtain ⟨n, rfl⟩ := Int.eq_ofNat_of_zero_le (show 0 ≤ sz by omega)
          obtain ⟨z, rfl⟩ := Int.eq_ofNat_of_zero_le (show 0 ≤ ch by omega)
          have hmy := fun W => many_c n z (by omega) (by omega) (by omega) W
          generalize hr : chkM n z ids = r
          have HC : Hid (r = if m ≠ manyN n z then 5 else if ids.all (fun s => decide (idE s = 0)) = false then 5 else if 4096 < m then 3 else 0) := by
            show _ = _
            rw [← hr]; unfold chkM
            rw [if_neg (by omega), Int.toNat_natCast, Int.toNat_natCast, HX.out]
          clear hr
          have hmq : manyN n z ≤ 40000 := by
            unfold manyN
            exact Nat.le_trans (Nat.div_le_self _ _) (by omega)
          generalize manyN n z = q at *
          have g0 : (w.alloc (.cells #[.int .i64 (n : Int), .int .i64 (z : Int), .slice A m c] 69)).cell? ⟨w.heap.size, 0, none⟩ = some (.int .i64 (n : Int)) := by simp
          have g1 : (w.alloc (.cells #[.int .i64 (n : Int), .int .i64 (z : Int), .slice A m c] 69)).cell? ⟨w.heap.size, 1, none⟩ = some (.int .i64 (z : Int)) := by simp
          have g2 : (w.alloc (.cells #[.int .i64 (n : Int), .int .i64 (z : Int), .slice A m c] 69)).cell? ⟨w.heap.size, 2, none⟩ = some (.slice A m c) := by simp
          have HBA : Hid (Below w.heap.size w (w.alloc (.cells #[.int .i64 (n : Int), .int .i64 (z : Int), .slice A m c] 69))) := (Below.refl _ _).alloc (Nat.le_refl _) _
          have HWS : Hid (w.heap.size < (w.alloc (.cells #[.int .i64 (n : Int), .int .i64 (z : Int), .slice A m c] 69)).heap.size) := by show _ < _; simp
          go_enter Tryz.func67, Tryz.ntmps67
          go_wp2_with fail
          generalize w.alloc (.cells #[.int .i64 (n : Int), .int .i64 (z : Int), .slice A m c] 69) = w1 at *
          by_cases hmq2 : m = q
          · subst hmq2
            have hb : ((m : Int) != (m : Int)) = false := by simp
            have HC2 : Hid (r = if ids.all (fun s => decide (idE s = 0)) = false then 5 else if 4096 < m then 3 else 0) := by show _ = _; rw [HC.out, if_neg (by simp)]
            clear HC
            go_quiet ((go_at_call 92; exact Calls.quiet_of_same (hmy _)))
            have HG2 : Hid (∀ X, Below w1.heap.size w1 X → X.cell? ⟨w.heap.size, 2, none⟩ = some (.slice A m c)) := fun X hX => keepc hX g2
            have HDR : Hid (∀ q, Below w1.heap.size w1 (w1.drewN q)) := fun q => below_drewN (Below.refl _ _) q
            clear g0 g1 hmy
            go_wp2_with fail
            go_loopw [4, 37] (fun _ vi wr => ∃ (k : Nat), vi = .int .i64 k ∧ k ≤ m ∧ Hid (Below w1.heap.size w1 wr) ∧ Hid ((ids.take k).all (fun s => decide (idE s = 0)) = true)) (fun _ vi _ => m - (intOf vi).toNat)
            case atStart => exact ⟨0, rfl, by omega, (by first | exact HDR.out _ | exact Below.refl _ _ | (rw [World.drewN_drewN]; exact HDR.out _)), rfl⟩
            case round =>
              clear HDR g2
              obtain ⟨k, rfl, hk, HB, HA⟩ := hrel
              have g3 := HG2.out wr HB.out
              by_cases hlt : k < m
              · obtain ⟨b1, o1, rfl, hb1, hcell⟩ := RdS.get (Reads.below HR.out (HBA.out.trans (HB.out.mono HBA.out.size))) hlt
                have HT := Lib.hid (all_take ids (fun s => decide (idE s = 0)) k (by rw [HX.out]; exact hlt))
                have HF := Lib.hid (all_stop ids (fun s => decide (idE s = 0)) k (by rw [HX.out]; exact hlt))
                have hzk : (ids.getD k ⟨#[]⟩).size < 1000000000 := HZ.out _ (by have := HX.out; simp [List.getD, show k < ids.length by omega])
                have hck := fun W => hcheck_c (ids.getD k ⟨#[]⟩) hzk W
                have hiv := idE_vals (ids.getD k ⟨#[]⟩)
                generalize ids.getD k ⟨#[]⟩ = id0 at *
                have HID := Lib.hid hiv
                clear hiv hzk
                generalize hE : idE id0 = e0 at *
                have HE0 := Lib.hid hE
                clear hE
                by_cases he0 : e0 = 0
                · subst he0
                  have HA2 : Hid ((ids.take (k + 1)).all (fun s => decide (idE s = 0)) = true) := by show _ = _; rw [HT.out, HA.out]; rfl
                  clear HT HF HA HID
                  go_wp2_with fail
                  refine (hck _).mono ?_
                  rintro e w5 ⟨rfl, hb5⟩
                  have HB5 : Hid (Below w1.heap.size w1 w5) := HB.out.trans (hb5.mono HB.out.size)
                  clear hb5 hck hcell
                  go_wp2_with fail
                  go_roundw
                  case rel => exact ⟨k + 1, by go_num, by omega, HB5, HA2⟩
                  case measure => simp [intOf]; omega
                · have heb : (e0 != 0) = true := by simpa using he0
                  have HR5 : Hid (r = 5) := by
                    show _ = _
                    rw [HC2.out, HF.out (decide_eq_false he0), if_pos rfl]
                  clear HT HF HA HID HC2
                  go_wp2_with fail
                  refine (hck _).mono ?_
                  rintro e w5 ⟨rfl, hb5⟩
                  go_wp2_with fail
                  go_ret
                  exact ⟨ret_int HR5.out.symm, HBA.out.trans ((HB.out.trans (hb5.mono HB.out.size)).mono HBA.out.size)⟩
              · have HAll : Hid (ids.all (fun s => decide (idE s = 0)) = true) := by
                  show _ = _
                  have := HA.out
                  rwa [show k = m by omega, List.take_of_length_le (by rw [HX.out]; exact Nat.le_refl _)] at this
                by_cases hbig : 4096 < m
                · have hd9 : decide ((m : Int) > 4096) = true := decide_eq_true (by omega)
                  have HR5 : Hid (r = 3) := by show _ = _; rw [HC2.out, HAll.out, if_neg (by simp), if_pos hbig]
                  clear HA HC2 HAll
                  go_wp2_with fail
                  go_ret
                  exact ⟨ret_int HR5.out.symm, HBA.out.trans (HB.out.mono HBA.out.size)⟩
                · have hd9 : decide ((m : Int) > 4096) = false := decide_eq_false (by omega)
                  have HR5 : Hid (r = 0) := by show _ = _; rw [HC2.out, HAll.out, if_neg (by simp), if_neg hbig]
                  clear HA HC2 HAll
                  go_wp2_with fail
                  go_ret
                  exact ⟨ret_int HR5.out.symm, HBA.out.trans (HB.out.mono HBA.out.size)⟩
          · have hb : ((m : Int) != (q : Int)) = true := by rw [bne_iff_ne]; omega
            have HR5 : Hid (r = 5) := by show _ = _; rw [HC.out, if_pos hmq2]
            have HDR : Hid (∀ q, Below w.heap.size w (w1.drewN q)) := fun q => below_drewN HBA.out q
            clear HC
            go_quiet ((go_at_call 92; exact Calls.quiet_of_same (hmy _)))
            clear g0 g1 g2
            go_wp2_with fail
            go_ret
            exact ⟨ret_int HR5.out.symm, (by first | exact HDR.out _ | (rw [World.drewN_drewN]; exact HDR.out _))⟩

set_option maxHeartbeats 4000000 in
set_option maxRecDepth 100000 in
theorem rmchk_c (sz ch : Int) (A : Option Addr) (m c B : Nat) (ids : List ByteArray) (w : World) (h1 : RdS w B A m ids) (hB : B ≤ w.heap.size) (hm : m < 1000000) (hz : ∀ s ∈ ids, s.size < 1000000000) :
    Calls Tryz.prog 52 #[manv sz ch A m c] w fun e w' => e = .returned (.int .i64 (chkM sz ch ids)) ∧ Below w.heap.size w w' := by
  have HX := Lib.hid (RdS.len h1)
  have HR := Lib.hid (Reads.more h1 hB)
  have HZ := Lib.hid hz
  clear h1 hB hz
  simp only [manv]
  by_cases h2 : ch < 1
  · have hc : chkM sz ch ids = 2 := if_pos (by omega)
    rw [hc]; clear hc
    have d0 : decide (ch < 1) = true := decide_eq_true (by omega)
    go_enter Tryz.func52, Tryz.ntmps52
    go_wp2
    go_ret
    exact ⟨rfl, (Below.refl _ _).alloc (Nat.le_refl _) _⟩
  · have d0 : decide (ch < 1) = false := decide_eq_false (by omega)
    by_cases h3 : 4096 < ch
    · have hc : chkM sz ch ids = 2 := if_pos (by omega)
      rw [hc]; clear hc
      have d1 : decide (ch > 4096) = true := decide_eq_true (by omega)
      go_enter Tryz.func52, Tryz.ntmps52
      go_wp2
      go_ret
      exact ⟨rfl, (Below.refl _ _).alloc (Nat.le_refl _) _⟩
    · have d1 : decide (ch > 4096) = false := decide_eq_false (by omega)
      by_cases h4 : sz < 0
      · have hc : chkM sz ch ids = 2 := if_pos (by omega)
        rw [hc]; clear hc
        have d2 : decide (sz < 0) = true := decide_eq_true (by omega)
        go_enter Tryz.func52, Tryz.ntmps52
        go_wp2
        go_ret
        exact ⟨rfl, (Below.refl _ _).alloc (Nat.le_refl _) _⟩
      · have d2 : decide (sz < 0) = false := decide_eq_false (by omega)
        by_cases h5 : 32768 < sz
        · have hc : chkM sz ch ids = 2 := if_pos (by omega)
          rw [hc]; clear hc
          have d3 : decide (sz > 32768) = true := decide_eq_true (by omega)
          go_enter Tryz.func52, Tryz.ntmps52
          go_wp2
          go_ret
          exact ⟨rfl, (Below.refl _ _).alloc (Nat.le_refl _) _⟩
        · have d3 : decide (sz > 32768) = false := decide_eq_false (by omega)
          obtain ⟨n, rfl⟩ := Int.eq_ofNat_of_zero_le (show 0 ≤ sz by omega)
          obtain ⟨z, rfl⟩ := Int.eq_ofNat_of_zero_le (show 0 ≤ ch by omega)
          have hmy := fun W => rmany_c n z (by omega) (by omega) (by omega) W
          generalize hr : chkM n z ids = r
          have HC : Hid (r = if m ≠ manyN n z then 5 else if ids.all (fun s => decide (idE s = 0)) = false then 5 else if 4096 < m then 3 else 0) := by
            show _ = _
            rw [← hr]; unfold chkM
            rw [if_neg (by omega), Int.toNat_natCast, Int.toNat_natCast, HX.out]
          clear hr
          have hmq : manyN n z ≤ 40000 := by
            unfold manyN
            exact Nat.le_trans (Nat.div_le_self _ _) (by omega)
          generalize manyN n z = q at *
          have g0 : (w.alloc (.cells #[.int .i64 (n : Int), .int .i64 (z : Int), .slice A m c] 69)).cell? ⟨w.heap.size, 0, none⟩ = some (.int .i64 (n : Int)) := by simp
          have g1 : (w.alloc (.cells #[.int .i64 (n : Int), .int .i64 (z : Int), .slice A m c] 69)).cell? ⟨w.heap.size, 1, none⟩ = some (.int .i64 (z : Int)) := by simp
          have g2 : (w.alloc (.cells #[.int .i64 (n : Int), .int .i64 (z : Int), .slice A m c] 69)).cell? ⟨w.heap.size, 2, none⟩ = some (.slice A m c) := by simp
          have HBA : Hid (Below w.heap.size w (w.alloc (.cells #[.int .i64 (n : Int), .int .i64 (z : Int), .slice A m c] 69))) := (Below.refl _ _).alloc (Nat.le_refl _) _
          have HWS : Hid (w.heap.size < (w.alloc (.cells #[.int .i64 (n : Int), .int .i64 (z : Int), .slice A m c] 69)).heap.size) := by show _ < _; simp
          go_enter Tryz.func52, Tryz.ntmps52
          go_wp2_with fail
          generalize w.alloc (.cells #[.int .i64 (n : Int), .int .i64 (z : Int), .slice A m c] 69) = w1 at *
          by_cases hmq2 : m = q
          · subst hmq2
            have hb : ((m : Int) != (m : Int)) = false := by simp
            have HC2 : Hid (r = if ids.all (fun s => decide (idE s = 0)) = false then 5 else if 4096 < m then 3 else 0) := by show _ = _; rw [HC.out, if_neg (by simp)]
            clear HC
            go_quiet ((go_at_call 69; exact Calls.quiet_of_same (hmy _)))
            have HG2 : Hid (∀ X, Below w1.heap.size w1 X → X.cell? ⟨w.heap.size, 2, none⟩ = some (.slice A m c)) := fun X hX => keepc hX g2
            have HDR : Hid (∀ q, Below w1.heap.size w1 (w1.drewN q)) := fun q => below_drewN (Below.refl _ _) q
            clear g0 g1 hmy
            go_wp2_with fail
            go_loopw [3] (fun vi wr => ∃ (k : Nat), vi = .int .i64 k ∧ k ≤ m ∧ Hid (Below w1.heap.size w1 wr) ∧ Hid ((ids.take k).all (fun s => decide (idE s = 0)) = true)) (fun vi _ => m - (intOf vi).toNat)
            case atStart => exact ⟨0, rfl, by omega, (by first | exact HDR.out _ | exact Below.refl _ _ | (rw [World.drewN_drewN]; exact HDR.out _)), rfl⟩
            case round =>
              clear HDR g2
              obtain ⟨k, rfl, hk, HB, HA⟩ := hrel
              have g3 := HG2.out wr HB.out
              by_cases hlt : k < m
              · obtain ⟨b1, o1, rfl, hb1, hcell⟩ := RdS.get (Reads.below HR.out (HBA.out.trans (HB.out.mono HBA.out.size))) hlt
                have HT := Lib.hid (all_take ids (fun s => decide (idE s = 0)) k (by rw [HX.out]; exact hlt))
                have HF := Lib.hid (all_stop ids (fun s => decide (idE s = 0)) k (by rw [HX.out]; exact hlt))
                have hzk : (ids.getD k ⟨#[]⟩).size < 1000000000 := HZ.out _ (by have := HX.out; simp [List.getD, show k < ids.length by omega])
                have hck := fun W => rhcheck_c (ids.getD k ⟨#[]⟩) hzk W
                have hiv := idE_vals (ids.getD k ⟨#[]⟩)
                generalize ids.getD k ⟨#[]⟩ = id0 at *
                have HID := Lib.hid hiv
                clear hiv hzk
                generalize hE : idE id0 = e0 at *
                have HE0 := Lib.hid hE
                clear hE
                by_cases he0 : e0 = 0
                · subst he0
                  have HA2 : Hid ((ids.take (k + 1)).all (fun s => decide (idE s = 0)) = true) := by show _ = _; rw [HT.out, HA.out]; rfl
                  clear HT HF HA HID
                  go_wp2_with fail
                  refine (hck _).mono ?_
                  rintro e w5 ⟨rfl, hb5⟩
                  have HB5 : Hid (Below w1.heap.size w1 w5) := HB.out.trans (hb5.mono HB.out.size)
                  clear hb5 hck hcell
                  go_wp2_with fail
                  go_roundw
                  case rel => exact ⟨k + 1, by go_num, by omega, HB5, HA2⟩
                  case measure => simp [intOf]; omega
                · have heb : (e0 != 0) = true := by simpa using he0
                  have HR5 : Hid (r = 5) := by
                    show _ = _
                    rw [HC2.out, HF.out (decide_eq_false he0), if_pos rfl]
                  clear HT HF HA HID HC2
                  go_wp2_with fail
                  refine (hck _).mono ?_
                  rintro e w5 ⟨rfl, hb5⟩
                  go_wp2_with fail
                  go_ret
                  exact ⟨ret_int HR5.out.symm, HBA.out.trans ((HB.out.trans (hb5.mono HB.out.size)).mono HBA.out.size)⟩
              · have HAll : Hid (ids.all (fun s => decide (idE s = 0)) = true) := by
                  show _ = _
                  have := HA.out
                  rwa [show k = m by omega, List.take_of_length_le (by rw [HX.out]; exact Nat.le_refl _)] at this
                by_cases hbig : 4096 < m
                · have hd9 : decide ((m : Int) > 4096) = true := decide_eq_true (by omega)
                  have HR5 : Hid (r = 3) := by show _ = _; rw [HC2.out, HAll.out, if_neg (by simp), if_pos hbig]
                  clear HA HC2 HAll
                  go_wp2_with fail
                  go_ret
                  exact ⟨ret_int HR5.out.symm, HBA.out.trans (HB.out.mono HBA.out.size)⟩
                · have hd9 : decide ((m : Int) > 4096) = false := decide_eq_false (by omega)
                  have HR5 : Hid (r = 0) := by show _ = _; rw [HC2.out, HAll.out, if_neg (by simp), if_neg hbig]
                  clear HA HC2 HAll
                  go_wp2_with fail
                  go_ret
                  exact ⟨ret_int HR5.out.symm, HBA.out.trans (HB.out.mono HBA.out.size)⟩
          · have hb : ((m : Int) != (q : Int)) = true := by rw [bne_iff_ne]; omega
            have HR5 : Hid (r = 5) := by show _ = _; rw [HC.out, if_pos hmq2]
            have HDR : Hid (∀ q, Below w.heap.size w (w1.drewN q)) := fun q => below_drewN HBA.out q
            clear HC
            go_quiet ((go_at_call 69; exact Calls.quiet_of_same (hmy _)))
            clear g0 g1 g2
            go_wp2_with fail
            go_ret
            exact ⟨ret_int HR5.out.symm, (by first | exact HDR.out _ | (rw [World.drewN_drewN]; exact HDR.out _))⟩
end Go.Proofs.YtmhkalalcmkpbaaGreat
