/-
  slices.symMergeCmpFunc over []float64 where the first run has one element: it merges the two runs, stably; both runs sorted.
-/
import Derived.Test.YtngjfeielpnnnaaSortRot
import Derived.Test.YtngjfeielpnnnaaStable2
namespace Go.Proofs.Ytngjfeielpnnnaa
open Go.RowKit
open FloatPlain
open Stable
set_option linter.unusedVariables false
set_option linter.unusedSimpArgs false
attribute [local go_sem] run_frombits run_bits u64_signed run_store_float

theorem swoK : Swo ltK where
  asym x y h := by unfold ltK at *; simp at *; omega
  ntrans x y z h1 h2 := by unfold ltK at *; simp at *; omega

set_option maxHeartbeats 1000000 in
set_option maxRecDepth 100000 in
theorem sym1_c (g cap : Nat) (P : List Nat) (x : Nat) (B Q : List Nat) (N a m b : Nat) (hN : (P ++ x :: (B ++ Q)).length = N) (ha : P.length = a) (hm : a + 1 = m) (hb : m + B.length = b) (hB0 : 0 < B.length) (hB : Srt ltK B)
    (w0 w : World) (hS : SortW w0 g (P ++ x :: (B ++ Q)) w) (hc : N < 4611686018427387904) :
    Calls Try.prog 115 #[.slice (some ⟨g, 0, none⟩) N cap, .int .i64 a, .int .i64 m, .int .i64 b, .func (.func 66) #[] #[]] w fun e w' => e = .returned (.tuple #[]) ∧ SortW w0 g (P ++ (mrg ltK [x] B ++ Q)) w' := by
  have HS := Lib.hid hS
  have HNn := Lib.hid hN
  have HA := Lib.hid ha
  have HMm := Lib.hid hm
  have HBb := Lib.hid hb
  have hbN : b ≤ N := by simp at hN; omega
  have ham : a < m := by omega
  have ham' : m ≤ a + 1 := by omega
  have hmb : m < b := by omega
  have ht : ((m : Int) - (a : Int) == 1) = true := by rw [beq_iff_eq]; omega
  have Hx : Hid ((P ++ x :: (B ++ Q)).getD a default = x) := by rw [← ha]; exact getD_at P (B ++ Q) x
  have HLo : Hid (∀ h h', m ≤ h → h ≤ h' → h' < b → ltK ((P ++ x :: (B ++ Q)).getD h' default) x = true → ltK ((P ++ x :: (B ++ Q)).getD h default) x = true) :=
    fun h h' h1 h2 h3 e => sym1_step_lo swoK P x B Q hB h h' (by omega) h2 (by omega) e
  have HHi : Hid (∀ h h', m ≤ h → h ≤ h' → h' < b → ltK ((P ++ x :: (B ++ Q)).getD h default) x = false → ltK ((P ++ x :: (B ++ Q)).getD h' default) x = false) :=
    fun h h' h1 h2 h3 e => sym1_step_hi swoK P x B Q hB h h' (by omega) h2 (by omega) e
  have HFin : Hid (∀ i, m ≤ i → i ≤ b → (∀ h, m ≤ h → h < i → ltK ((P ++ x :: (B ++ Q)).getD h default) x = true) → (∀ h, i ≤ h → h < b → ltK ((P ++ x :: (B ++ Q)).getD h default) x = false) → rolR (P ++ x :: (B ++ Q)) a (i - 1 - a) = P ++ (mrg ltK [x] B ++ Q)) := by
    intro i h1 h2 h3 h4
    rw [← ha]
    exact sym1_fin P x B Q i (by omega) (by omega) (fun h g1 g2 => h3 h (by omega) g2) (fun h g1 g2 => h4 h g1 (by omega))
  generalize P ++ x :: (B ++ Q) = l at *
  generalize P ++ (mrg ltK [x] B ++ Q) = T at *
  clear hS hN ha hm hb hB0 hB
  clear P B Q HA HMm HBb
  go_enter Try.func115, Try.ntmps115
  go_wp2_with fail
  go_loopw [10, 11] (fun vi vj wr => ∃ (i j : Nat), vi = .int .i64 i ∧ vj = .int .i64 j ∧ m ≤ i ∧ i ≤ j ∧ j ≤ b ∧ Hid (SortW w0 g l wr) ∧ Hid (∀ h, m ≤ h → h < i → ltK (l.getD h default) x = true) ∧ Hid (∀ h, j ≤ h → h < b → ltK (l.getD h default) x = false)) (fun vi vj _ => (intOf vj).toNat - (intOf vi).toNat)
  case atStart => exact ⟨m, b, rfl, rfl, Nat.le_refl _, by omega, Nat.le_refl _, HS, fun h h1 h2 => by omega, fun h h1 h2 => by omega⟩
  case round =>
    clear HS
    obtain ⟨i, j, rfl, rfl, hmi, hij, hjb, HR, H1, H2⟩ := hrel
    by_cases hlt : i < j
    · have c1 := HR.out.1.cell ((i + j) / 2) (by have := HNn.out; omega)
      have c2 := HR.out.1.cell a (by have := HNn.out; omega)
      have hcmp := fun n => sortcmp_c (l.getD ((i + j) / 2) default) (l.getD a default) (HR.out.1.mem (by have := HNn.out; omega)) (HR.out.1.mem (by have := HNn.out; omega)) (wr.drewN n)
      rw [Hx.out] at c2 hcmp
      have hlt0 := cmpK_lt (l.getD ((i + j) / 2) default) x
      have h1' : ltK (l.getD ((i + j) / 2) default) x = true → ∀ h, m ≤ h → h < (i + j) / 2 + 1 → ltK (l.getD h default) x = true := fun e h g1 g2 => HLo.out h ((i + j) / 2) g1 (by omega) (by omega) e
      have h2' : ltK (l.getD ((i + j) / 2) default) x = false → ∀ h, (i + j) / 2 ≤ h → h < b → ltK (l.getD h default) x = false := fun e h g1 g2 => HHi.out ((i + j) / 2) h (by omega) g1 g2 e
      have H1' := Lib.hid h1'
      have H2' := Lib.hid h2'
      clear h1' h2'
      generalize l.getD ((i + j) / 2) default = y at c1 hcmp hlt0 H1' H2'
      have e1 : (((i : Int) + j) / 2).toNat = (i + j) / 2 := by omega
      have e2 : (0 : Int) ≤ ((i : Int) + j) / 2 := by omega
      have e3 : ((i : Int) + j) / 2 < (N : Int) := by omega
      have e4 : (a : Int) < (N : Int) := by omega
      cases hlv : ltK y x with
      | true =>
        rw [hlv] at hlt0
        have HL := Lib.hid hlv
        clear hlv
        go_wp2_with fail
        go_quiet (first | (go_at_call 66; exact quiet_left (hcmp _)))
        have HR2 : Hid (SortW w0 g l (wr.drewN nq)) := HR.out.drewN nq
        clear c1 c2 hcmp HR
        generalize wr.drewN nq = w2 at HR2 ⊢
        go_wp2
        go_roundw
        case rel => exact ⟨(i + j) / 2 + 1, j, by go_num, rfl, by omega, by omega, hjb, HR2, H1'.out HL.out, H2⟩
        case measure => simp [intOf]; omega
      | false =>
        rw [hlv] at hlt0
        have HL := Lib.hid hlv
        clear hlv
        go_wp2_with fail
        go_quiet (first | (go_at_call 66; exact quiet_left (hcmp _)))
        have HR2 : Hid (SortW w0 g l (wr.drewN nq)) := HR.out.drewN nq
        clear c1 c2 hcmp HR
        generalize wr.drewN nq = w2 at HR2 ⊢
        go_wp2
        go_roundw
        case rel => exact ⟨i, (i + j) / 2, rfl, by go_num, hmi, by omega, by omega, HR2, H1, H2'.out HL.out⟩
        case measure => simp [intOf]; omega
    · have hij' : i = j := by omega
      have HF := Lib.hid (HFin.out i hmi (by omega) H1.out (by rw [hij']; exact H2.out))
      clear H1 H2 HFin HLo HHi hij'
      go_wp2_with fail
      go_loopw [13] (fun vk wr => ∃ (k : Nat), vk = .int .i64 k ∧ a ≤ k ∧ k + 1 ≤ i ∧ Hid (SortW w0 g (rolR l a (k - a)) wr)) (fun vk _ => i - (intOf vk).toNat)
      case atStart => exact ⟨a, rfl, Nat.le_refl _, by omega, by show SortW w0 g (rolR l a (a - a)) _; rw [Nat.sub_self]; exact HR.out⟩
      case round =>
        clear HR
        obtain ⟨k, rfl, hak, hki, HR⟩ := hrel
        by_cases hlt2 : k + 1 < i
        · have hlen : (rolR l a (k - a)).length = N := by rw [rolR_length]; exact HNn.out
          have HE : Hid (rolR l a (k + 1 - a) = swp (rolR l a (k - a)) k (k + 1)) := by
            show rolR l a (k + 1 - a) = _
            rw [show k + 1 - a = (k - a) + 1 by omega, rolR, show a + (k - a) = k by omega]
          generalize rolR l a (k - a) = q at HR hlen HE
          have c1 := HR.out.1.cell k (by omega)
          have c2 := HR.out.1.cell (k + 1) (by omega)
          have f1 := HR.out.1.free k (by omega)
          have f2 := HR.out.1.free (k + 1) (by omega)
          have HS3 := Lib.hid (HR.out.swapped k (k + 1) (by omega) (by omega))
          generalize q.getD k default = u1 at c1 HS3
          generalize q.getD (k + 1) default = u2 at c2 HS3
          obtain ⟨u, c3⟩ := HR.out.cell2 k (k + 1) (by omega) (by omega) (.float .f64 u2)
          clear HR
          have e1 : ((k : Int) + 1).toNat = k + 1 := by omega
          have e5 : (0 : Int) ≤ (k : Int) + 1 := by omega
          have e7 : (k : Int) + 1 < (N : Int) := by omega
          have e8 : (k : Int) < (N : Int) := by omega
          have e9 : IntKind.i64.wrap ((k : Int) + 1) = (k : Int) + 1 := by rw [IntKind.wrap_i64]; omega
          have e10 : (k : Int) < (i : Int) - 1 := by omega
          clear hlen
          go_wp2_with fail
          go_big_region
          clear c1 c2 c3 f1 f2
          generalize ((wr.setCell ⟨g, k, none⟩ (.float .f64 u2)).setCell ⟨g, k + 1, none⟩ (.float .f64 u1)).drew = w3 at HS3 ⊢
          go_wp2
          go_roundw
          case rel => exact ⟨k + 1, by go_num, by omega, by omega, by rw [HE.out]; exact HS3⟩
          case measure => simp [intOf]; omega
        · have e10 : ¬ (k : Int) < (i : Int) - 1 := by omega
          have hk : k - a = i - 1 - a := by omega
          rw [hk, HF.out] at HR
          clear hk
          go_wp2
          refine bodyPost_ret (results_none rfl _ _ _) rfl ?_
          exact ⟨rfl, HR.out⟩
end Go.Proofs.Ytngjfeielpnnnaa
