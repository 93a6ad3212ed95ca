/-
  DotPut
-/
import Derived.Test.YtmhkalalcmkpbaaZDotMay2
import Derived.Test.YtmhkalalcmkpbaaZDotPlain
namespace Go.Proofs.Ytmhkalalcmkpbaa
open Go.RowKit
set_option linter.unusedVariables false
set_option linter.unusedSimpArgs false
theorem ret_si2 {a b : ByteArray} {c d : Int} (h : a = b) (h' : c = d) : Ending.returned (.tuple #[.string a, .int .i64 c]) = .returned (.tuple #[.string b, .int .i64 d]) := by rw [h, h']

set_option maxHeartbeats 2000000 in
set_option maxRecDepth 100000 in
theorem put_c (A : Option Addr) (n c B : Nat) (l : List (Int × Int)) (w : World) (h1 : RdD w B A n l) (hB : B ≤ w.heap.size) (hn : n < 1000000) :
    Calls Try.prog 64 #[.slice A n c] w fun e w' => e = .returned (.tuple #[.string (putS l), .int .i64 (putE l)]) ∧ Below w.heap.size w w' := by
  have HX := Lib.hid h1.len
  have HR := Lib.hid (Reads.more h1 hB)
  have hmay := may_c A n c B l w h1 hB hn
  clear h1 hB
  by_cases hbig : 4096 < n
  · have he : putE l = 3 := by unfold putE; rw [HX.out, if_pos hbig]
    have hs : putS l = ⟨#[]⟩ := by unfold putS; rw [he, if_pos (by decide)]
    rw [he, hs]; clear he hs hmay
    have hd : decide ((n : Int) > 4096) = true := decide_eq_true (by omega)
    go_enter Try.func64, Try.ntmps64
    go_wp2
    go_ret2
    exact ⟨rfl, Below.refl _ _⟩
  · have hd : decide ((n : Int) > 4096) = false := decide_eq_false (by omega)
    have he : putE l = mayE l := by unfold putE; rw [HX.out, if_neg hbig]
    rw [he]
    by_cases hm : mayE l = 0
    · have hs : putS l = putL l (numS n) := by unfold putS; rw [he, hm, if_neg (by simp), HX.out]
      rw [hm] at hmay ⊢
      rw [hs]; clear he hs hm
      generalize hps : putL l (numS n) = ps
      have HPS := Lib.hid hps
      clear hps
      go_enter Try.func64, Try.ntmps64
      go_wp2_with fail
      refine hmay.mono ?_
      rintro e w1 ⟨rfl, hb1⟩
      have HB1 := Lib.hid hb1
      clear hb1 hmay
      go_wp2_with fail
      refine (num_c (n : Int) _).mono ?_
      rintro e w2 ⟨rfl, hb2⟩
      have HB2 : Hid (Below w.heap.size w w2) := HB1.out.trans (hb2.mono HB1.out.size)
      clear hb2 HB1
      go_wp2_with fail
      go_loopw [5, 8, 9, 10, 11, 12, 29] (fun vs _ _ _ _ _ vi wr => ∃ (i : Nat), vi = .int .i64 i ∧ i ≤ n ∧ Hid (Below w.heap.size w wr) ∧ vs = .string (putL (l.take i) (numS n))) (fun _ _ _ _ _ _ vi _ => n - (intOf vi).toNat)
      case atStart => exact ⟨0, rfl, by omega, HB2, rfl⟩
      case round =>
        clear HB2
        obtain ⟨i, rfl, hin, HB, rfl⟩ := hrel
        by_cases hlt : i < n
        · obtain ⟨b1, o1, rfl, _, hc1, hc2⟩ := RdD.get (Reads.below HR.out HB.out) hlt
          have HT : Hid (putL (l.take (i + 1)) (numS n) = putL (l.take i) (numS n) ++ (numS (l.getD i default).1 ++ numS (l.getD i default).2)) := by
            show _ = _
            rw [take_nextD l i n HX.out hlt, putL_snoc]
          have hsz := putL_size (l.take i) (numS n)
          have hsz0 := numS_size n
          rw [List.length_take] at hsz
          generalize putL (l.take i) (numS n) = s0 at *
          generalize l.getD i default = d at *
          obtain ⟨d1, d2⟩ := d
          simp only at hc1 hc2 HT
          have hs1 := numS_size d1
          have hs2 := numS_size d2
          have hs3 := ByteArray.size_append (a := numS d1) (b := numS d2)
          have hadd1 := fun w => run_string_add_sum (P := Try.prog) w (numS d1) (numS d2) (by omega)
          have hadd2 := fun w => run_string_add_sum (P := Try.prog) w s0 (numS d1 ++ numS d2) (by omega)
          clear hsz hsz0 hs1 hs2 hs3
          go_wp2_with fail
          refine (num_c d1 _).mono ?_
          rintro e w3 ⟨rfl, hb3⟩
          have hcell : w3.cell? ⟨wr.heap.size, 1, none⟩ = some (.int .i64 d2) := (hb3.cell (p := ⟨wr.heap.size, 1, none⟩) (by simp)).trans (by simp)
          have HB3 : Hid (Below w.heap.size w w3) := (HB.out.alloc HB.out.size _).trans (hb3.mono (Nat.le_trans HB.out.size (by simp)))
          clear hc1 hc2 hb3
          go_wp2_with fail
          refine (num_c d2 _).mono ?_
          rintro e w4 ⟨rfl, hb4⟩
          have HB4 : Hid (Below w.heap.size w w4) := HB3.out.trans (hb4.mono HB3.out.size)
          clear hb4 hcell
          go_wp2_with fail
          go_roundw
          case rel => exact ⟨i + 1, by go_num, by omega, HB4, congrArg _ HT.out.symm⟩
          case measure => simp [intOf]; omega
        · have hin' : i = n := by omega
          have HE : Hid (putL (l.take i) (numS n) = ps) := by
            show _ = _
            rw [hin', List.take_of_length_le (by rw [HX.out]; exact Nat.le_refl _)]; exact HPS.out
          clear hin'
          generalize putL (l.take i) (numS n) = s0 at *
          go_wp2
          go_ret2
          exact ⟨ret_si2 HE.out rfl, HB.out⟩
    · have hs : putS l = ⟨#[]⟩ := by unfold putS; rw [he, if_pos hm]
      rw [hs]
      have hb : (mayE l != 0) = true := by simpa using hm
      clear he hs hm
      generalize mayE l = e at *
      go_enter Try.func64, Try.ntmps64
      go_wp2_with fail
      refine hmay.mono ?_
      rintro e w1 ⟨rfl, hb1⟩
      go_wp2
      go_ret2
      exact ⟨rfl, hb1⟩
end Go.Proofs.Ytmhkalalcmkpbaa
