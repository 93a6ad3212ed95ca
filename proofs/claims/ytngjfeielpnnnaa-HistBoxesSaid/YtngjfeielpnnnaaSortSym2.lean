/-
  slices.symMergeCmpFunc over []float64 where the second run has one element: it merges the two runs, stably; both runs sorted.
-/
import Derived.Test.YtngjfeielpnnnaaSortSym1
namespace Go.Proofs.Ytngjfeielpnnnaa
open Go.RowKit
open FloatPlain
open Stable
set_option linter.unusedVariables false
set_option linter.unusedSimpArgs false
attribute [local go_sem] run_frombits run_bits u64_signed run_store_float

set_option maxHeartbeats 1000000 in
set_option maxRecDepth 100000 in
theorem sym2_c (g cap : Nat) (P A : List Nat) (y : Nat) (Q : List Nat) (N a m b : Nat) (hN : (P ++ (A ++ y :: Q)).length = N) (ha : P.length = a) (hm : a + A.length = m) (hb : m + 1 = b) (hA0 : 1 < A.length) (hA : Srt ltK A)
    (w0 w : World) (hS : SortW w0 g (P ++ (A ++ y :: Q)) w) (hc : N < 4611686018427387904) :
    Calls Try.prog 115 #[.slice (some ⟨g, 0, none⟩) N cap, .int .i64 a, .int .i64 m, .int .i64 b, .func (.func 66) #[] #[]] w fun e w' => e = .returned (.tuple #[]) ∧ SortW w0 g (P ++ (mrg ltK A [y] ++ Q)) w' := by
  have HS := Lib.hid hS
  have HNn := Lib.hid hN
  have hbN : b ≤ N := by simp at hN; omega
  have ham : a + 1 < m := by omega
  have hmb : m < b := by omega
  have hmb' : b ≤ m + 1 := by omega
  have ht : ((m : Int) - (a : Int) == 1) = false := by rw [beq_eq_false_iff_ne]; omega
  have ht2 : ((b : Int) - (m : Int) == 1) = true := by rw [beq_iff_eq]; omega
  have Hy : Hid ((P ++ (A ++ y :: Q)).getD m default = y) := by
    show _ = _
    have e : P ++ (A ++ y :: Q) = (P ++ A) ++ y :: Q := by simp
    rw [e, show m = (P ++ A).length by simp; omega]; exact getD_at _ _ _
  have HLo : Hid (∀ h h', a ≤ h → h ≤ h' → h' < m → ltK y ((P ++ (A ++ y :: Q)).getD h' default) = false → ltK y ((P ++ (A ++ y :: Q)).getD h default) = false) :=
    fun h h' h1 h2 h3 e => sym2_step_lo swoK P A y Q hA h h' (by omega) h2 (by omega) e
  have HHi : Hid (∀ h h', a ≤ h → h ≤ h' → h' < m → ltK y ((P ++ (A ++ y :: Q)).getD h default) = true → ltK y ((P ++ (A ++ y :: Q)).getD h' default) = true) :=
    fun h h' h1 h2 h3 e => sym2_step_hi swoK P A y Q hA h h' (by omega) h2 (by omega) e
  have HFin : Hid (∀ i, a ≤ i → i ≤ m → (∀ h, a ≤ h → h < i → ltK y ((P ++ (A ++ y :: Q)).getD h default) = false) → (∀ h, i ≤ h → h < m → ltK y ((P ++ (A ++ y :: Q)).getD h default) = true) → rolL (P ++ (A ++ y :: Q)) m (m - i) = P ++ (mrg ltK A [y] ++ Q)) := by
    intro i h1 h2 h3 h4
    rw [← hm, ← ha]
    exact sym2_fin P A y Q i (by omega) (by omega) (fun h g1 g2 => h3 h (by omega) g2) (fun h g1 g2 => h4 h g1 (by omega))
  generalize P ++ (A ++ y :: Q) = l at *
  generalize P ++ (mrg ltK A [y] ++ Q) = T at *
  clear hS hN ha hm hb hA0 hA
  clear P A Q
  go_enter Try.func115, Try.ntmps115
  go_wp2_with fail
  go_loopw [14, 15] (fun vi vj wr => ∃ (i j : Nat), vi = .int .i64 i ∧ vj = .int .i64 j ∧ a ≤ i ∧ i ≤ j ∧ j ≤ m ∧ Hid (SortW w0 g l wr) ∧ Hid (∀ h, a ≤ h → h < i → ltK y (l.getD h default) = false) ∧ Hid (∀ h, j ≤ h → h < m → ltK y (l.getD h default) = true)) (fun vi vj _ => (intOf vj).toNat - (intOf vi).toNat)
  case atStart => exact ⟨a, m, rfl, rfl, Nat.le_refl _, by omega, Nat.le_refl _, HS, fun h h1 h2 => by omega, fun h h1 h2 => by omega⟩
  case round =>
    clear HS
    obtain ⟨i, j, rfl, rfl, hmi, hij, hjb, HR, H1, H2⟩ := hrel
    by_cases hlt : i < j
    · have c1 := HR.out.1.cell ((i + j) / 2) (by have := HNn.out; omega)
      have c2 := HR.out.1.cell m (by have := HNn.out; omega)
      have hcmp := fun n => sortcmp_c (l.getD m default) (l.getD ((i + j) / 2) default) (HR.out.1.mem (by have := HNn.out; omega)) (HR.out.1.mem (by have := HNn.out; omega)) (wr.drewN n)
      rw [Hy.out] at c2 hcmp
      have hlt0 := cmpK_lt y (l.getD ((i + j) / 2) default)
      have h1' : ltK y (l.getD ((i + j) / 2) default) = false → ∀ h, a ≤ h → h < (i + j) / 2 + 1 → ltK y (l.getD h default) = false := fun e h g1 g2 => HLo.out h ((i + j) / 2) g1 (by omega) (by omega) e
      have h2' : ltK y (l.getD ((i + j) / 2) default) = true → ∀ h, (i + j) / 2 ≤ h → h < m → ltK y (l.getD h default) = true := fun e h g1 g2 => HHi.out ((i + j) / 2) h (by omega) g1 g2 e
      have H1' := Lib.hid h1'
      have H2' := Lib.hid h2'
      clear h1' h2'
      generalize l.getD ((i + j) / 2) default = z at c1 hcmp hlt0 H1' H2'
      have e1 : (((i : Int) + j) / 2).toNat = (i + j) / 2 := by omega
      have e2 : (0 : Int) ≤ ((i : Int) + j) / 2 := by omega
      have e3 : ((i : Int) + j) / 2 < (N : Int) := by omega
      have e4 : (m : Int) < (N : Int) := by omega
      cases hlv : ltK y z with
      | true =>
        rw [hlv] at hlt0
        have HL := Lib.hid hlv
        clear hlv
        go_wp2_with fail
        go_quiet (first | (go_at_call 66; exact quiet_left (hcmp _)))
        have HR2 : Hid (SortW w0 g l (wr.drewN nq)) := HR.out.drewN nq
        clear c1 c2 hcmp HR
        generalize wr.drewN nq = w2 at HR2 ⊢
        go_wp2
        go_roundw
        case rel => exact ⟨i, (i + j) / 2, rfl, by go_num, hmi, by omega, by omega, HR2, H1, H2'.out HL.out⟩
        case measure => simp [intOf]; omega
      | false =>
        rw [hlv] at hlt0
        have HL := Lib.hid hlv
        clear hlv
        go_wp2_with fail
        go_quiet (first | (go_at_call 66; exact quiet_left (hcmp _)))
        have HR2 : Hid (SortW w0 g l (wr.drewN nq)) := HR.out.drewN nq
        clear c1 c2 hcmp HR
        generalize wr.drewN nq = w2 at HR2 ⊢
        go_wp2
        go_roundw
        case rel => exact ⟨(i + j) / 2 + 1, j, by go_num, rfl, by omega, by omega, hjb, HR2, H1'.out HL.out, H2⟩
        case measure => simp [intOf]; omega
    · have hij' : i = j := by omega
      have HF := Lib.hid (HFin.out i hmi (by omega) H1.out (by rw [hij']; exact H2.out))
      clear H1 H2 HFin HLo HHi hij'
      go_wp2_with fail
      go_loopw [17] (fun vk wr => ∃ (k : Nat), vk = .int .i64 k ∧ i ≤ k ∧ k ≤ m ∧ Hid (SortW w0 g (rolL l m (m - k)) wr)) (fun vk _ => (intOf vk).toNat)
      case atStart => exact ⟨m, rfl, by omega, Nat.le_refl _, by show SortW w0 g (rolL l m (m - m)) _; rw [Nat.sub_self]; exact HR.out⟩
      case round =>
        clear HR
        obtain ⟨k, rfl, hak, hki, HR⟩ := hrel
        by_cases hlt2 : i < k
        · obtain ⟨kp, hkp⟩ : ∃ q, q + 1 = k := ⟨k - 1, by omega⟩
          subst hkp
          have zj : ((kp + 1 : Nat) : Int) = (kp : Int) + 1 := by omega
          rw [zj]
          have hlen : (rolL l m (m - (kp + 1))).length = N := by rw [rolL_length]; exact HNn.out
          have HE : Hid (rolL l m (m - kp) = swp (rolL l m (m - (kp + 1))) (kp + 1) kp) := by
            show rolL l m (m - kp) = _
            rw [show m - kp = (m - (kp + 1)) + 1 by omega, rolL, show m - (m - (kp + 1)) = kp + 1 by omega, Nat.add_sub_cancel]
          generalize rolL l m (m - (kp + 1)) = q at HR hlen HE
          have c1 := HR.out.1.cell kp (by omega)
          have c2 := HR.out.1.cell (kp + 1) (by omega)
          have f1 := HR.out.1.free kp (by omega)
          have f2 := HR.out.1.free (kp + 1) (by omega)
          have HS3 := Lib.hid (HR.out.swapped (kp + 1) kp (by omega) (by omega))
          generalize q.getD kp default = u1 at c1 HS3
          generalize q.getD (kp + 1) default = u2 at c2 HS3
          obtain ⟨u, c3⟩ := HR.out.cell2 (kp + 1) kp (by omega) (by omega) (.float .f64 u1)
          clear HR
          have e1 : ((kp : Int) + 1).toNat = kp + 1 := by omega
          have e5 : (0 : Int) ≤ (kp : Int) + 1 := by omega
          have e7 : (kp : Int) + 1 < (N : Int) := by omega
          have e8 : (kp : Int) < (N : Int) := by omega
          have e9 : IntKind.i64.wrap (kp : Int) = (kp : Int) := by rw [IntKind.wrap_i64]; omega
          have e10 : (i : Int) < (kp : Int) + 1 := by omega
          clear hlen zj
          go_wp2_with fail
          go_big_region
          clear c1 c2 c3 f1 f2
          generalize ((wr.setCell ⟨g, kp + 1, none⟩ (.float .f64 u1)).setCell ⟨g, kp, none⟩ (.float .f64 u2)).drew = w3 at HS3 ⊢
          go_wp2
          go_roundw
          case rel => exact ⟨kp, by go_num, by omega, by omega, by rw [HE.out]; exact HS3⟩
          case measure => simp [intOf]
        · have hk : m - k = m - i := by omega
          rw [hk, HF.out] at HR
          clear hk
          go_wp2
          refine bodyPost_ret (results_none rfl _ _ _) rfl ?_
          exact ⟨rfl, HR.out⟩
end Go.Proofs.Ytngjfeielpnnnaa
