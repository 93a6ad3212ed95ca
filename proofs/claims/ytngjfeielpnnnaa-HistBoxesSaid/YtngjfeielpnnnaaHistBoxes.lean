/-
  hist.Boxes and hist.Most.
-/
import Derived.Test.YtngjfeielpnnnaaHistSearch
namespace Go.Proofs.Ytngjfeielpnnnaa
open Go.RowKit
open FloatPlain
open Stable
set_option linter.unusedVariables false
set_option linter.unusedSimpArgs false
attribute [local go_sem] run_frombits run_bits u64_signed run_store_float

def i64v (n : Nat) : Value := .int .i64 n
abbrev RdI (w : World) (B : Nat) (A : Option Addr) (n : Nat) (xs : List Nat) : Prop := Reads w B 1 A n (xs.map i64v)
theorem RdI.len {w : World} {B : Nat} {A : Option Addr} {n : Nat} {xs : List Nat} (h : RdI w B A n xs) : xs.length = n := by have := h.1; simpa using this
theorem RdI.get {w : World} {B : Nat} {A : Option Addr} {n k : Nat} {xs : List Nat} (h : RdI w B A n xs) (hk : k < n) : ∃ ad, A = some ad ∧ w.cell? (ad.add k) = some (.int .i64 (xs.getD k default : Nat)) := by
  obtain ⟨ad, u, e, _, hx, hc⟩ := Reads.at_ h hk
  refine ⟨ad, e, ?_⟩
  rw [hc, ← hx]
  have := h.len
  simp [List.getD, i64v, show k < xs.length by omega]
/-- A row of counts of the call's own. -/
abbrev OwnI (w : World) (base : Nat) (v : Value) (l : List Nat) : Prop := w.ownsRow base 3 1 v l.length (l.map i64v)
theorem infoInt : (Try.prog.info? 3).map (fun i => (i.zero, i.size, i.bytes)) = some (some (.int .i64 0), 1, 8) := by kernel_rfl
theorem infoU64 : (Try.prog.info? 22).map (fun i => (i.zero, i.size, i.bytes)) = some (some (.int .u64 0), 1, 8) := by kernel_rfl
theorem sliceU64 : Try.prog.underlying 30 = some (.slice 22) := by kernel_rfl
theorem make_int (n : Nat) (z : Int) (hz : z = (n : Int)) (hn : n < 35184372088832) (w : World) : (Instr.makeSlice 51 (.int .i64 z) (.int .i64 z)).run Try.prog w = .ok (.slice (some ⟨w.heap.size, 0, none⟩) n n) (w.alloc (.cells (madeCells #[.int .i64 0] n) 3)) := by
  subst hz
  obtain ⟨i, hi, hz, hsz, hby⟩ := info_parts infoInt
  have h := run_make_rowN (P := Try.prog) 51 3 i (.int .i64 0) (by kernel_rfl) hi hz .i64 .i64 n n (Nat.le_refl _) (by rw [hby]; omega) (by omega) w
  rw [hsz, Nat.mul_one] at h
  exact h
theorem own_madeI (w : World) (n : Nat) (hn : n < 35184372088832) : OwnI (w.alloc (.cells (madeCells #[.int .i64 0] n) 3)) w.heap.size (.slice (some ⟨w.heap.size, 0, none⟩) n n) (List.replicate n 0) := by
  have h := World.ownsRow_lit (base := w.heap.size) (e := 3) (size := 1) w (madeCells #[.int .i64 0] n) n (Nat.le_refl _) (by simp only [maxLen]; omega) (by rw [size_madeCells]; omega)
  rw [toList_madeCells_one] at h
  show World.ownsRow _ _ _ _ _ _ _
  rw [List.length_replicate, List.map_replicate]
  exact h
theorem OwnI.set {w : World} {base g cap n : Nat} {l : List Nat} (hn : l.length = n) (h : OwnI w base (.slice (some ⟨g, 0, none⟩) n cap) l) (j x : Nat) :
    OwnI (w.setCell ⟨g, j, none⟩ (.int .i64 x)) base (.slice (some ⟨g, 0, none⟩) n cap) (l.set j x) ∧ w.grownBy (w.setCell ⟨g, j, none⟩ (.int .i64 x)) (some g) := by
  subst hn
  have := World.ownsRow.stored h j (.int .i64 x)
  refine ⟨?_, this.2⟩
  show World.ownsRow _ _ _ _ _ _ _
  rw [List.length_set, List.map_set]; exact this.1
theorem OwnI.cell {w : World} {base g cap n j : Nat} {l : List Nat} (hn : l.length = n) (h : OwnI w base (.slice (some ⟨g, 0, none⟩) n cap) l) (hj : j < n) : w.cell? ⟨g, j, none⟩ = some (.int .i64 (l.getD j default : Nat)) := by
  subst hn
  rw [World.ownsRow.cellAt h j (by omega)]; simp [List.getD, i64v, hj]
theorem OwnI.free {w : World} {base g cap n : Nat} {l : List Nat} (hn : l.length = n) (h : OwnI w base (.slice (some ⟨g, 0, none⟩) n cap) l) (j : Nat) : w.frozen? ⟨g, j, none⟩ = false := by
  subst hn
  exact World.ownsRow.frozenAt h j
theorem OwnI.rd {w : World} {base n c : Nat} {A : Option Addr} {l : List Nat} (hn : l.length = n) (h : OwnI w base (.slice A n c) l) : RdI w w.heap.size A n l := by
  subst hn
  exact Reads.of_own h
theorem keys_next (S : List Nat) (k n : Nat) (hn : S.length = n) (hk : k < n) : (S.take (k + 1)).map keyB = (S.take k).map keyB ++ [keyB (S.getD k default)] := by
  rw [take_next S k n hn hk, List.map_append]; rfl

set_option maxHeartbeats 2000000 in
set_option maxRecDepth 100000 in
theorem boxes_c (A A2 : Option Addr) (n m c c2 B B2 : Nat) (xs ys : List Nat) (w : World) (h1 : RdF w B A n xs) (hB : B ≤ w.heap.size) (h2 : RdF w B2 A2 m ys) (hB2 : B2 ≤ w.heap.size) (hok : ∀ x ∈ xs, W64 x) (hok2 : ∀ x ∈ ys, W64 x) (hn : n < 1000000) (hm : m < 1000000) :
    Calls Try.prog 45 #[.slice A n c, .slice A2 m c2] w fun e w' => ∃ A' c', e = .returned (.slice A' (m + 1) c') ∧ RdI w' w'.heap.size A' (m + 1) (cntB (keysB ys) xs) ∧ Below w.heap.size w w' := by
  have hs := fun c => sort_c A2 m c B2 ys w h2 hB2 hok2 (by omega)
  change ∀ c, Calls _ _ _ _ (fun e w' => ∃ A' c', e = _ ∧ RdF w' w'.heap.size A' m (srtF ys) ∧ _) at hs
  have HX := Lib.hid h1.len
  have HY : Hid ((srtF ys).length = m) := (srtF_length ys).trans h2.len
  have HYL := Lib.hid h2.len
  have H1 := Lib.hid (Reads.more h1 hB)
  have HOK := Lib.hid hok
  have HOK2 := Lib.hid hok2
  clear h1 h2 hB hB2 hok hok2
  go_enter Try.func45, Try.ntmps45
  go_wp2_with fail
  refine (hs _).mono ?_
  rintro e w1 ⟨A1, c1, rfl, hr1, hb1⟩
  have HR := Lib.hid hr1
  have HB := Lib.hid hb1
  clear hr1 hb1 hs
  go_wp2_with fail
  go_loopw [5, 16] (fun v vi wr => ∃ (k : Nat) (A3 : Option Addr) (c3 : Nat), vi = .int .i64 k ∧ k ≤ m ∧ v = .slice A3 k c3 ∧ Hid (wr.ownsRow w1.heap.size 22 1 (.slice A3 k c3) k ((((srtF ys).take k).map keyB).map u64v)) ∧ Hid (Below w1.heap.size w1 wr)) (fun _ vi _ => m - (intOf vi).toNat)
  case atStart => exact ⟨0, none, 0, rfl, by omega, rfl, World.ownsRow_nil _ _ _ _, Below.refl _ _⟩
  case round =>
    obtain ⟨k, A3, c3, rfl, hkm, rfl, HO, HB1⟩ := hrel
    by_cases hlt : k < m
    · obtain ⟨ad, rfl, hc0⟩ := RdF.get (Reads.below HR.out HB1.out) hlt
      have HT := Lib.hid (keys_next (srtF ys) k m HY.out hlt)
      have hky := key_c ((srtF ys).getD k default) (srtF_ok ys HOK2.out _ (by have := HY.out; simp [List.getD, show k < (srtF ys).length by omega]))
      generalize keyB ((srtF ys).getD k default) = y at hky HT
      generalize (srtF ys).getD k default = x at hc0 hky
      go_wp2_with (first | (go_at_call 35; refine (hky _).mono ?_; rintro e w' ⟨rfl, rfl⟩) | (at_builtin; refine app_one sliceU64 infoU64 rfl (by decide) (.int .u64 _) rfl HO.out (by omega) HB1.out.size rfl _ _ rfl rfl rfl ?_; intro v2 w2 ho2 hg2))
      have HB2 : Hid (Below w1.heap.size w1 w2) := below_app HB1.out HO.out (Nat.le_refl _) HB1.out.size hg2
      obtain ⟨g, cap, hv, hgb, hgl⟩ := World.ownsRow.form ho2 (by omega)
      subst hv
      have HO2 : Hid (w2.ownsRow w1.heap.size 22 1 (.slice (some ⟨g, 0, none⟩) (k + 1) cap) (k + 1) ((((srtF ys).take (k + 1)).map keyB).map u64v)) := by
        show World.ownsRow _ _ _ _ _ _ _
        rw [HT.out, List.map_append]; simpa [u64v] using ho2
      clear ho2 hg2 hc0 HO HB1
      go_roundw
      case rel => exact ⟨k + 1, _, _, by go_num, by omega, rfl, HO2, HB2⟩
      case measure => simp [intOf]; omega
    · have hk : k = m := by omega
      subst hk
      have hfull : (srtF ys).take k = srtF ys := List.take_of_length_le (by rw [HY.out]; exact Nat.le_refl _)
      rw [hfull] at HO
      have HK : Hid (RdU wr wr.heap.size A3 k (keysB ys)) := Reads.of_own HO.out
      have HB3 : Hid (Below w.heap.size w wr) := HB.out.trans (HB1.out.mono HB.out.size)
      clear hfull HO HB1 HB HR
      obtain ⟨w3, hw3⟩ : ∃ w3, w3 = wr := ⟨_, rfl⟩
      subst hw3
      have hmk := make_int (k + 1) ((k : Int) + 1) (by omega) (by omega) w3
      have HST : Hid (∃ v l, v = .slice (some ⟨w3.heap.size, 0, none⟩) (k + 1) (k + 1) ∧ OwnI (w3.alloc (.cells (madeCells #[.int .i64 0] (k + 1)) 3)) w3.heap.size v l ∧ l.length = k + 1 ∧ l = cntB (keysB ys) (xs.take 0)) :=
        ⟨_, _, rfl, own_madeI w3 (k + 1) (by omega), by simp, by unfold cntB; rw [keysB_length, HYL.out]; rfl⟩
      have HB0 : Hid (Below w3.heap.size w3 (w3.alloc (.cells (madeCells #[.int .i64 0] (k + 1)) 3))) := (Below.refl _ _).alloc (Nat.le_refl _) _
      go_wp2_with fail
      generalize w3.alloc (.cells (madeCells #[.int .i64 0] (k + 1)) 3) = wa at HST HB0 ⊢
      clear hmk
      go_loopw [32] (fun vi w2 => ∃ (j : Nat), vi = .int .i64 j ∧ j ≤ n ∧ Hid (∃ v l, v = .slice (some ⟨w3.heap.size, 0, none⟩) (k + 1) (k + 1) ∧ OwnI w2 w3.heap.size v l ∧ l.length = k + 1 ∧ l = cntB (keysB ys) (xs.take j)) ∧ Hid (Below w3.heap.size w3 w2)) (fun vi _ => n - (intOf vi).toNat)
      case atStart => exact ⟨0, rfl, by omega, HST, HB0⟩
      case round =>
        clear HST HB0
        obtain ⟨j, rfl, hjn, HST, HB0⟩ := hrel
        by_cases hlt2 : j < n
        · obtain ⟨ad, rfl, hc0⟩ := RdF.get (Reads.below H1.out (HB3.out.trans (HB0.out.mono HB3.out.size))) hlt2
          obtain ⟨v, l, rfl, ho, hl, hle⟩ := HST.out
          have hat : bs (keysB ys) (keyB (xs.getD j default)) < k + 1 := by have := bs_le (keysB ys) (keyB (xs.getD j default)); rw [keysB_length, HYL.out] at this; omega
          have hval : l.getD (bs (keysB ys) (keyB (xs.getD j default))) default < 1000000 := by
            rw [hle]
            have := cntB_le (keysB ys) (xs.take j) (bs (keysB ys) (keyB (xs.getD j default)))
            rw [List.length_take] at this; omega
          have HNX : Hid (l.set (bs (keysB ys) (keyB (xs.getD j default))) (l.getD (bs (keysB ys) (keyB (xs.getD j default))) default + 1) = cntB (keysB ys) (xs.take (j + 1))) := by
            show _ = _
            rw [cntB_next _ _ _ _ HX.out hlt2, ← hle]; rfl
          have hky := key_c (xs.getD j default) (HOK.out _ (by have := HX.out; simp [List.getD, show j < xs.length by omega]))
          have hsr := fun c y => search_c A3 k c w3.heap.size (keysB ys) y wr (Reads.below HK.out HB0.out) (fun h h' g1 g2 => keysB_sorted ys h h' g1 (by rw [HYL.out]; exact g2)) hm
          generalize keyB (xs.getD j default) = y at hky HNX hat hval
          generalize xs.getD j default = x at hc0 hky
          have hsr2 := hsr
          generalize hbs : bs (keysB ys) y = at_ at HNX hat hval
          have hsr3 := fun c => hsr c y
          rw [hbs] at hsr3
          clear hsr hsr2 hbs
          have hcell := OwnI.cell hl ho hat
          have hfree := OwnI.free hl ho at_
          have hset := OwnI.set hl ho at_ (l.getD at_ default + 1)
          generalize l.getD at_ default = z at *
          have HN : Hid (∃ v l, v = .slice (some ⟨w3.heap.size, 0, none⟩) (k + 1) (k + 1) ∧ OwnI (wr.setCell ⟨w3.heap.size, at_, none⟩ (.int .i64 (z + 1 : Nat))) w3.heap.size v l ∧ l.length = k + 1 ∧ l = cntB (keysB ys) (xs.take (j + 1))) :=
            ⟨_, _, rfl, hset.1, by rw [List.length_set]; exact hl, HNX.out⟩
          have HB9 : Hid (Below w3.heap.size w3 (wr.setCell ⟨w3.heap.size, at_, none⟩ (.int .i64 (z + 1 : Nat)))) := HB0.out.setCell (p := ⟨w3.heap.size, at_, none⟩) (Nat.le_refl _) _
          have hcast : ((z + 1 : Nat) : Int) = (z : Int) + 1 := by omega
          rw [hcast] at HN HB9
          clear hset ho hl hle HST HB0 HNX hcast
          go_wp2_with (first | (go_at_call 35; refine (hky _).mono ?_; rintro e w' ⟨rfl, rfl⟩) | (go_at_call 69; refine (hsr3 _).mono ?_; rintro e w' ⟨rfl, rfl⟩))
          go_roundw
          case rel => exact ⟨j + 1, by go_num, by omega, HN, HB9⟩
          case measure => simp [intOf]; omega
        · have hj : j = n := by omega
          subst hj
          have hfull : xs.take j = xs := List.take_of_length_le (by rw [HX.out]; exact Nat.le_refl _)
          rw [hfull] at HST
          obtain ⟨v, l, rfl, ho, hl, hle⟩ := HST.out
          have HO9 := Lib.hid ho
          have HL9 := Lib.hid hl
          have HE9 := Lib.hid hle
          clear hfull HST ho hl hle
          go_wp2
          go_ret
          refine ⟨_, _, rfl, ?_, HB3.out.trans (HB0.out.mono HB3.out.size)⟩
          rw [← HE9.out]
          exact OwnI.rd HL9.out HO9.out
end Go.Proofs.Ytngjfeielpnnnaa
